import Derived.Test.YtcckhkcchpfdoaaShareD12
import Derived.Test.YtcckhkcchpfdoaaLm10
import Derived.Test.YtcckhkcchpfdoaaAm17
import Derived.Below
import Derived.ChangeSlices
import Derived.Deep.Matrix
import Derived.OpenShut
import Derived.Carry
/-
  What functions of chapter 07 compute, outright 14: the law 'ShareBetter', joined.
-/
set_option linter.unusedVariables false
set_option linter.unusedSimpArgs false
set_option maxRecDepth 10000
set_option maxHeartbeats 400000
namespace Go.Am.Share
open Go.Am.G

theorem bm_trim2 (P : LMem) (W : LV) (L : Nat) (o q : List Int) (h : L ≠ 0) : trim (P.length + 3) [.tup []] (BMf P W L (some q) o) = BMf P W L (some q) o := by
  unfold trim
  have hb : belowM (P.length + 3) ((BMf P W L (some q) o).take (P.length + 3)) = false := by
    unfold belowM
    rw [List.all_eq_false]
    refine ⟨⟨[wnt P.length L (some q)], true⟩, ?_, ?_⟩
    · refine List.mem_of_getElem? (i := P.length + 1) ?_
      rw [List.getElem?_take, if_pos (by omega)]
      exact pget P _ 1
    · simp [wnt, CV, h, LV.unders, LV.under, nblt]
  rw [hb, Bool.and_false, cond_false]
def XBt (P : LMem) (b0 c0 : Bool) (z0 : Nat) {rs : List Row} (L : Nat) (hP2 : P[2]? = some ⟨[VL b0 c0 z0 rs], true⟩) {lo : List Int} (Dl : LOk rs lo) (hD : ∀ o : List Int, o.length = L → (∀ x ∈ o, 0 ≤ x ∧ x < (rs.length : Int)) → LOk rs o) : DVis rs.length L where
  mem h o := BMf P (VL false true 1 (WR (vals rs) lo)) L (h.find? fun q => better (vals rs) q lo) o
  f := n_law07_ShareBetter_1
  cap := [.ptr (P.length + 2) 0 1, .ptr 2 0 1, .ptr P.length 0 1, .ptr (P.length + 1) 0 1]
  b := P.length + 3
  own h := wow L (h.find? fun q => better (vals rs) q lo)
  hown h hL := by
    have : L ≠ 0 := by omega
    simp [wow, this]
  hb h o ho := pget P _ 3
  hset h o k x ho hk := by
    have : wow L (h.find? fun q => better (vals rs) q lo) = true := by
      have : L ≠ 0 := by omega
      simp [wow, this]
    unfold BMf
    rw [pset, this]
    rfl
  hvis h o hG ho hr := by
    have := better1_w P b0 c0 z0 hP2 Dl (hD o ho hr) ho (h.find? fun q => better (vals rs) q lo)
    rw [List.find?_append]
    have e : [o].find? (fun q => better (vals rs) q lo) = if better (vals rs) o lo then some o else none := by
      cases hB : better (vals rs) o lo <;> simp [List.find?_cons, hB]
    rw [e]
    exact this
theorem betterL0 (cs : List Nat) (hc6 : cs.length = 6) (hcb : ∀ x ∈ cs, x < 256) (w0 : LBlk) (b0 c0 : Bool) (z0 : Nat) (rs : List Row) (h1 : 0 < rs.length) (h4 : rs.length ≤ 4) (n : Nat) (hn : n ≤ 6) (d : Nat) : ∀ k, k + d = n →
    exF LP law07_ShareBetter.L0 [(3, .ptr 1 0 6), (5, .ptr 2 0 1), (6, GV 3 (owL cs rs.length k)), (25, .int .i64 (n : Int)), (26, .int .i64 (k : Int))] ([w0, ⟨bys cs, true⟩, ⟨[VL b0 c0 z0 rs], true⟩] ++ GM (owL cs rs.length k)) =
      some (.exit 0, [(5, .ptr 2 0 1), (6, GV 3 (owL cs rs.length n))], [w0, ⟨bys cs, true⟩, ⟨[VL b0 c0 z0 rs], true⟩] ++ GM (owL cs rs.length n)) := by
  induction d with
  | zero =>
    intro k hk
    obtain rfl : k = n := by omega
    rw [law07_ShareBetter.L0_eq]
    simp only [law07_ShareBetter.B0, beqT, beqF, exF_seq, exF_region, exF_block, exF_cond, exF_ret, exF_exit, exF_skip, runL, wantL, stepL, evL, evC, LEnv.at, putL, loadFine, loadL, cellsAt, Trk.putNew, Trk.up, Trk.touch, Trk.gives, Trk.calm, Trk.hit, opdsOf, Trk.fresh, LEnv.keep, LEnv.ofFrom, List.map_cons, List.map_nil, nbeq, nble, nblt, ofAV, ofAVs, lenL, bin_add, bin_sub, bin_mul, bin_eql, bin_neq, bin_lss, bin_leq, bin_gtr, bin_geq, natL_nat, natL_zero, natL_one, natL_two, Nat.zero_mul, List.any_cons, List.any_nil, Bool.or_false, Bool.false_or, Bool.true_or, Bool.or_true, Bool.and_true, Bool.true_and, Bool.and_false, Bool.false_and, Bool.not_true, Bool.not_false, Nat.reduceBEq, Nat.reduceEqDiff, decide_true, decide_false, cond_true, cond_false, List.filter_nil, List.filter_cons, Nat.reduceAdd, Nat.reduceLeDiff, reduceCtorEq, List.length_nil, List.length_cons, Nat.mul_one, if_true, if_false, Bool.false_eq_true, eq_self, and_true, true_and, retL, resultsL, resAllL, resOfL, List.append_nil, List.nil_append, List.cons_append, true_or, or_true, false_or, or_false, false_and, and_false, not_true_eq_false, not_false_eq_true, ne_eq, unL, trim_nil, views_pures, LV.pures, LV.pure, freeze, Nat.reduceDiv, Int.reduceEq, Int.reduceLT, Int.reduceLE, Int.natCast_zero, LV.cells, allocL, List.getElem?_cons_zero, List.getElem?_cons_succ, storeL, spliceL, List.take_zero, List.take_succ_cons, List.drop_zero, List.drop_succ_cons, List.drop_nil, List.take_nil, Nat.le_refl, Nat.reduceMul, List.set_cons_zero, List.set_cons_succ, LV.scalar, List.all_cons, List.all_nil, Nat.lt_add_one, Nat.zero_lt_one, Nat.reduceLT, Nat.lt_irrefl, fillL, List.length_append, foldIntL, kind_beq, pures_int, solids_int, plains_int, unders_int, scalars_int, Int.lt_irrefl]
  | succ d ih =>
    intro k hk
    have ih := ih (k + 1) (by omega)
    have hk6 : k < cs.length := by omega
    have hk6' : k < 6 := by omega
    have hbl : (bys cs).length = 6 := by simp [hc6]
    have hat := bys_at hk6
    have hx := getD_lt hcb k
    have hwr : IntKind.i64.wrap ((cs.getD k 0 : Nat) : Int) = ((cs.getD k 0 : Nat) : Int) := wrap_in (by omega)
    have hrm := rem_nat (cs.getD k 0) rs.length (by omega)
    have ha := append_grow [w0, ⟨bys cs, true⟩, ⟨[VL b0 c0 z0 rs], true⟩] (owL cs rs.length k) ((cs.getD k 0 % rs.length : Nat) : Int) true (by rw [owL_len]; omega)
    rw [← owL_succ] at ha
    have hl2 : ([w0, ⟨bys cs, true⟩, ⟨[VL b0 c0 z0 rs], true⟩] : LMem).length = 3 := rfl
    rw [hl2] at ha
    have hvx : ∀ (x : Int) m, views m [.int .i64 x] = some ([.int .i64 x], []) := fun x m => views_pures m _ (by simp [LV.pures, LV.pure])
    have hws := wrap_succ (show k + 1 < 9223372036854775808 by omega)
    have hm1 : ([w0, ⟨bys cs, true⟩, ⟨[VL b0 c0 z0 rs], true⟩] ++ GM (owL cs rs.length k))[1]? = some ⟨bys cs, true⟩ := rfl
    have hm2 : ([w0, ⟨bys cs, true⟩, ⟨[VL b0 c0 z0 rs], true⟩] ++ GM (owL cs rs.length k))[2]? = some ⟨[VL b0 c0 z0 rs], true⟩ := rfl
    have l0 : lenL (VL b0 c0 z0 rs) = some rs.length := rfl
    have hci : ∀ n : Int, (LV.int .i64 n).cells = some [.int .i64 n] := fun _ => rfl
    have hn1 : ¬ ([w0, ⟨bys cs, true⟩, ⟨[VL b0 c0 z0 rs], true⟩] ++ GM (owL cs rs.length k)).length ≤ 1 := by simp
    have hn2 : ¬ ([w0, ⟨bys cs, true⟩, ⟨[VL b0 c0 z0 rs], true⟩] ++ GM (owL cs rs.length k)).length ≤ 2 := by simp
    generalize cs.getD k 0 % rs.length = y at *
    generalize cs.getD k 0 = x at *
    generalize [w0, ⟨bys cs, true⟩, ⟨[VL b0 c0 z0 rs], true⟩] ++ GM (owL cs rs.length k) = M0 at *
    generalize [w0, ⟨bys cs, true⟩, ⟨[VL b0 c0 z0 rs], true⟩] ++ GM (owL cs rs.length (k + 1)) = M2 at *
    generalize GV 3 (owL cs rs.length k) = g1 at *
    generalize GV 3 (owL cs rs.length (k + 1)) = g2 at *
    generalize bys cs = wc at *
    generalize VL b0 c0 z0 rs = VV at *
    rw [law07_ShareBetter.L0_eq]
    have l0' := l0
    unfold lenL at l0'
    simp (maxSteps := 1000000) only [law07_ShareBetter.B0, law07_ShareBetter.B0.R0, beqT, beqF, exF_seq, exF_region, exF_block, exF_cond, exF_ret, exF_exit, exF_skip, runL, wantL, stepL, evL, evC, LEnv.at, putL, loadFine, loadL, cellsAt, Trk.putNew, Trk.up, Trk.touch, Trk.gives, Trk.calm, Trk.hit, opdsOf, Trk.fresh, LEnv.keep, LEnv.ofFrom, List.map_cons, List.map_nil, nbeq, nble, nblt, ofAV, ofAVs, lenL, bin_add, bin_sub, bin_mul, bin_eql, bin_neq, bin_lss, bin_leq, bin_gtr, bin_geq, natL_nat, natL_zero, natL_one, natL_two, Nat.zero_mul, List.any_cons, List.any_nil, Bool.or_false, Bool.false_or, Bool.true_or, Bool.or_true, Bool.and_true, Bool.true_and, Bool.and_false, Bool.false_and, Bool.not_true, Bool.not_false, Nat.reduceBEq, Nat.reduceEqDiff, decide_true, decide_false, cond_true, cond_false, List.filter_nil, List.filter_cons, Nat.reduceAdd, Nat.reduceLeDiff, reduceCtorEq, List.length_nil, List.length_cons, Nat.mul_one, if_true, if_false, Bool.false_eq_true, eq_self, and_true, true_and, retL, resultsL, resAllL, resOfL, List.append_nil, List.nil_append, true_or, or_true, false_or, or_false, false_and, and_false, not_true_eq_false, not_false_eq_true, ne_eq, unL, trim_nil, LV.pures, LV.pure, Nat.reduceDiv, Int.reduceEq, Int.reduceLT, Int.reduceLE, Int.natCast_zero, allocL, List.getElem?_cons_zero, List.getElem?_cons_succ, storeL, spliceL, List.take_zero, List.take_succ_cons, List.drop_zero, List.drop_succ_cons, List.drop_nil, List.take_nil, Nat.le_refl, Nat.reduceMul, List.set_cons_zero, List.set_cons_succ, LV.scalar, List.all_cons, List.all_nil, Nat.lt_add_one, Nat.zero_lt_one, Nat.reduceLT, Nat.lt_irrefl, fillL, foldIntL, kind_beq, pures_int, solids_int, plains_int, unders_int, scalars_int, show ((k : Int) < (n : Int)) by omega, hk6', Nat.zero_add, hm1, hm2, hn1, hn2, hbl, hat, hwr, l0, l0', hrm, hci, hvx, freeze_nil, ha, hws, ih]
end Go.Am.Share

/-
  What functions of chapter 07 compute, outright 15: the law 'ShareBetter', joined.
-/
set_option linter.unusedVariables false
set_option linter.unusedSimpArgs false
set_option maxRecDepth 10000
set_option maxHeartbeats 400000
namespace Go.Am.Share
open Go.Am.G

/-- The same where what the answer looks like may hang on the view. -/
theorem Hold.callE {m : LMem} {v : LV} {l : List Int} (H : Hold m v l) {f : Nat} {lf : LFunc} (hC : LP f = some lf) (hmd : lf.mode = .P) {a : LV} (ha : a.pure = true) {r : List LV} (hr : LV.pures r = true) (hlr : r.length ≤ 4) {Q : LV → Prop} (hc : ∀ (b c : Bool) (z : Nat), (l = [] ∨ z = 1) → (b = true → l = []) → ∃ x, Q x ∧ ∀ m, clF LP f (a :: IL b c z l :: r) m = some (.P, x, m)) :
    ∃ x m', Q x ∧ clF LP f (a :: v :: r) m = some (.P, x, m') ∧ Hold m' v l ∧ (∀ i, ¬ isBlk v i → m'[i]? = m[i]?) ∧ m'.length = m.length := by
  rcases H with ⟨h1, h2⟩ | ⟨h1, b, o, h2, h3⟩
  · subst h1
    subst h2
    obtain ⟨x, q, h⟩ := hc true true 0 (.inl rfl) (fun _ => rfl)
    exact ⟨x, m, q, h m, .inl ⟨rfl, rfl⟩, fun _ _ => rfl, rfl⟩
  · subst h2
    obtain ⟨x, q, hx⟩ := hc false false 1 (.inr rfl) (fun h => by cases h)
    have hv := views_in m a _ _ _ r (view_at rfl h3 h1) ha hr (by simp [LV.pure]) hlr
    have hpv : LV.pures (a :: IL false false 1 l :: r) = true := by simp only [LV.pures, LV.pure, ha, hr, pures_int, Bool.and_true]
    rcases call_sh hC hmd hv hpv (hx []) with h | h
    · exact ⟨x, m, q, h, .inr ⟨h1, b, o, rfl, h3⟩, fun _ _ => rfl, rfl⟩
    · refine ⟨x, _, q, h, .inr ⟨h1, b, false, rfl, ?_⟩, fun i hi => ?_, Go.Am.G.freeze_length _ _⟩
      · have hb := (List.getElem?_eq_some_iff.1 h3).1
        simp only [freeze, freeze1, h3]
        rw [List.getElem?_set_self hb]
      · exact Go.Am.G.freeze_get i [b] m (by simp; intro e; exact hi (by rw [e]; rfl))
theorem betterR1 (l e : LV) (hl : lenL l = some 0) (V5 V9 : LV) (m : LMem) (he : e = .int .i64 13) :
    exF LP law07_ShareBetter.B.R1 [(5, V5), (9, V9), (11, l), (12, e), (53, .bool true)] m = some (.normal, [(4, .bool true)], m) := by
  subst he
  simp (maxSteps := 1000000) only [law07_ShareBetter.B.R1, beqT, beqF, exF_seq, exF_region, exF_block, exF_cond, exF_ret, exF_exit, exF_skip, runL, wantL, stepL, evL, evC, LEnv.at, putL, loadFine, loadL, cellsAt, Trk.putNew, Trk.up, Trk.touch, Trk.gives, Trk.calm, Trk.hit, opdsOf, Trk.fresh, LEnv.keep, LEnv.ofFrom, List.map_cons, List.map_nil, nbeq, nble, nblt, ofAV, ofAVs, bin_add, bin_sub, bin_mul, bin_eql, bin_neq, bin_lss, bin_leq, bin_gtr, bin_geq, natL_nat, natL_zero, natL_one, natL_two, Nat.zero_mul, List.any_cons, List.any_nil, Bool.or_false, Bool.false_or, Bool.true_or, Bool.or_true, Bool.and_true, Bool.true_and, Bool.and_false, Bool.false_and, Bool.not_true, Bool.not_false, Nat.reduceBEq, Nat.reduceEqDiff, decide_true, decide_false, cond_true, cond_false, List.filter_nil, List.filter_cons, Nat.reduceAdd, Nat.reduceLeDiff, reduceCtorEq, List.length_nil, List.length_cons, Nat.mul_one, if_true, if_false, Bool.false_eq_true, eq_self, and_true, true_and, retL, resultsL, resAllL, resOfL, List.append_nil, List.nil_append, List.cons_append, true_or, or_true, false_or, or_false, false_and, and_false, not_true_eq_false, not_false_eq_true, ne_eq, unL, trim_nil, views_pures, LV.pures, LV.pure, freeze, Nat.reduceDiv, Int.reduceEq, Int.reduceLT, Int.reduceLE, Int.natCast_zero, LV.cells, allocL, List.getElem?_cons_zero, List.getElem?_cons_succ, storeL, spliceL, List.take_zero, List.take_succ_cons, List.drop_zero, List.drop_succ_cons, List.drop_nil, List.take_nil, Nat.le_refl, Nat.reduceMul, List.set_cons_zero, List.set_cons_succ, LV.scalar, List.all_cons, List.all_nil, Nat.lt_add_one, Nat.zero_lt_one, Nat.reduceLT, Nat.lt_irrefl, fillL, List.length_append, foldIntL, kind_beq, pures_int, solids_int, plains_int, unders_int, scalars_int, hl, works_c]
theorem better_in (ns : List Int) (hl : ns.length = 26) (hb : ∀ n ∈ ns, 0 ≤ n ∧ n < 256) (os : List Int) (hol : os.length = 6) (hob : ∀ n ∈ os, 0 ≤ n ∧ n < 256) :
    clF LP n_law07_ShareBetter [.agg (ns.map (LV.int .u8)), .agg (os.map (LV.int .u8))] [] = some (.P, .bool true, []) := by
  obtain ⟨w, rfl, hwb⟩ := bytes_nat ns hb
  obtain ⟨cs, rfl, hcb⟩ := bytes_nat os hob
  rw [ci_ln] at hl hol
  show clF LP n_law07_ShareBetter [.agg (bys w), .agg (bys cs)] [] = some (.P, .bool true, [])
  obtain ⟨b0, c0, z0, hm⟩ := made_c w hl hwb 4 5 9 (by omega) (by omega) (by omega)
  have hr := Nat.mod_lt (w.getD 0 0) (show 0 < 4 by omega)
  have hn := Nat.mod_lt (w.getD 1 0) (show 0 < 5 + 1 by omega)
  have hbl : (bys w).length = 26 := by simp [hl]
  have hbl2 : (bys cs).length = 6 := by simp [hol]
  have htk : (bys w).take 26 = bys w := List.take_of_length_le (by omega)
  have hps : LV.pures (bys w) = true := pures_int _ _
  have hps2 : LV.pures (bys cs) = true := pures_int _ _
  generalize hn' : w.getD 1 0 % (5 + 1) = L at *
  generalize hr' : 1 + w.getD 0 0 % 4 = r at *
  have hr1 : 1 ≤ r := by omega
  have hr4 : r ≤ 4 := by omega
  have hrl := rsM_len w 9 L r
  have hvals := rsM_vals w 9 L r
  have hol' := owL_len cs r L
  have hown := owL_lt cs r L (by omega)
  have hD : ∀ o : List Int, o.length = L → (∀ x ∈ o, 0 ≤ x ∧ x < ((rsM w 9 L r).length : Int)) → LOk (rsM w 9 L r) o := fun o ho h => rsM_ok w 9 L r (by omega) (by omega) hr1 hr4 o ho (fun x hx => by have := h x hx; rw [hrl] at this; omega)
  have hdv : ∀ o : List Int, o.length = L → (∀ x ∈ o, 0 ≤ x ∧ x < ((rsM w 9 L r).length : Int)) → divE (vals (rsM w 9 L r)) o = 0 := fun o ho h => by rw [hvals]; exact divM w 9 L r (by omega) (by omega) hr1 hr4 o ho (fun x hx => by have := h x hx; rw [hrl] at this; exact this)
  have hrow0 : ((rsM w 9 L r).map Row.lv)[0]? = some (rowR (rowL (cut6 w 0) 9 L)).lv := by
    rw [row_at _ _ (by omega), rsM_at]
  have hlen0 : lenL (rowR (rowL (cut6 w 0) 9 L)).lv = some L := by
    show some (rowL (cut6 w 0) 9 L).length = some L
    rw [rowL_len]
  have hV0 : ((vals (rsM w 9 L r)).getD 0 []).length = L := by
    rw [vals_at _ 0 (by omega), rsM_at]
    show (rowL _ 9 L).length = L
    rw [rowL_len]
  have l0 := betterL0 cs hol hcb ⟨bys w, true⟩ b0 c0 z0 (rsM w 9 L r) (by omega) (by omega) L (by omega) L 0 (by omega)
  have e0 : owL cs (rsM w 9 L r).length 0 = [] := rfl
  rw [e0, GV_nil, GM_nil, List.append_nil, Int.natCast_zero, hrl] at l0
  have H0 : Hold ([⟨bys w, true⟩, ⟨bys cs, true⟩, ⟨[VL b0 c0 z0 (rsM w 9 L r)], true⟩] ++ GM (owL cs r L)) (GV 3 (owL cs r L)) (owL cs r L) := Hold.gv [⟨bys w, true⟩, ⟨bys cs, true⟩, ⟨[VL b0 c0 z0 (rsM w 9 L r)], true⟩] _
  have hown' : ∀ x ∈ owL cs r L, 0 ≤ x ∧ x < ((rsM w 9 L r).length : Int) := fun x hx => by have := hown x hx; omega
  generalize hrs : rsM w 9 L r = rs at *
  generalize hoo : owL cs r L = lo at *
  have hb2 : ∀ i, isBlk (GV 3 lo) i → i = 3 := fun i hi => by
    unfold GV at hi
    split at hi
    · exact absurd hi (by simp [isBlk])
    · exact hi.symm
  generalize hvl : GV 3 lo = vl at *
  have h02 : (([⟨bys w, true⟩, ⟨bys cs, true⟩, (⟨[VL b0 c0 z0 rs], true⟩ : LBlk)] ++ GM lo) : LMem)[2]? = some ⟨[VL b0 c0 z0 rs], true⟩ := rfl
  generalize hM0 : ([⟨bys w, true⟩, ⟨bys cs, true⟩, ⟨[VL b0 c0 z0 rs], true⟩] ++ GM lo : LMem) = M0 at *
  have hpv : (VL b0 c0 z0 rs).pure = true := by simp only [LV.pure, pures_row]
  have Dl := hD lo hol' hown'
  have B : BetOk rs L := ⟨hD, hdv, by omega, by omega, hV0⟩
  obtain ⟨P, k1, H1, f1, _⟩ := H0.call lp_law07_worths rfl (a := VL b0 c0 z0 rs) hpv (r := []) rfl (by simp) (fun b c z q1 q2 m => worths_c b0 c0 b c z0 z Dl m)
  have hP2 : P[2]? = some ⟨[VL b0 c0 z0 rs], true⟩ := by rw [f1 2 (fun h => by have := hb2 _ h; omega)]; exact h02
  -- all divisions
  have hw := divisions_w rs (XBt P b0 c0 z0 L hP2 Dl hD) b0 c0 z0 (by omega) (by omega) (by omega) (by rw [hrow0, Option.map_some, hlen0]) (P ++ [(⟨[VL false true 1 (WR (vals rs) lo)], true⟩ : LBlk)] ++ [(⟨[.lst true true 0 0 []], true⟩ : LBlk)] ++ [(⟨[.bool false], true⟩ : LBlk)]) (by
    show _ = BMf P (VL false true 1 (WR (vals rs) lo)) L none (List.replicate L 0)
    simp [BMf, wnt, wow, wblk]) (by
    show _ = P.length + 3
    simp)
  generalize hs : (allR rs.length L).find? (fun q => better (vals rs) q lo) = s at *
  have hX : (XBt P b0 c0 z0 L hP2 Dl hD).mem (allR rs.length L) (List.replicate L 0) = BMf P (VL false true 1 (WR (vals rs) lo)) L s (List.replicate L 0) := by
    show BMf P (VL false true 1 (WR (vals rs) lo)) L ((allR rs.length L).find? (fun q => better (vals rs) q lo)) (List.replicate L 0) = _
    rw [hs]
  rw [hX] at hw
  have hfunc : (XBt P b0 c0 z0 L hP2 Dl hD).f = n_law07_ShareBetter_1 := rfl
  have hcap : (XBt P b0 c0 z0 L hP2 Dl hD).cap = [.ptr (P.length + 2) 0 1, .ptr 2 0 1, .ptr P.length 0 1, .ptr (P.length + 1) 0 1] := rfl
  rw [hfunc, hcap] at hw
  obtain ⟨M4, hM4⟩ : ∃ M, M = trim (P ++ [(⟨[VL false true 1 (WR (vals rs) lo)], true⟩ : LBlk)] ++ [(⟨[.lst true true 0 0 []], true⟩ : LBlk)] ++ [(⟨[.bool false], true⟩ : LBlk)]).length [.tup []] (BMf P (VL false true 1 (WR (vals rs) lo)) L s (List.replicate L 0)) := ⟨_, rfl⟩
  rw [← hM4] at hw
  have h4P : ∀ i, i < P.length → M4[i]? = P[i]? := fun i hi => by
    rw [hM4, trim_get (by simp; omega)]
    unfold BMf
    rw [List.getElem?_append_left hi]
  have hP2l : 2 < P.length := (List.getElem?_eq_some_iff.1 hP2).1
  have q2 : M4[2]? = some ⟨[VL b0 c0 z0 rs], true⟩ := by rw [h4P 2 hP2l]; exact hP2
  have qw : M4[P.length + 1]? = some ⟨[wnt P.length L s], true⟩ := by rw [hM4, trim_get (by simp)]; exact pget P _ 1
  have qf : M4[P.length + 2]? = some ⟨[.bool s.isSome], true⟩ := by rw [hM4, trim_get (by simp)]; exact pget P _ 2
  have H4 : Hold M4 vl lo := H1.mono fun i hi => h4P i (H1.lt i hi)
  have hnb : ∀ i, 3 < i → ¬ isBlk vl i := fun i hi h => by have := hb2 _ h; omega
  have hP3 : 3 ≤ P.length := hP2l
  have hnb2 : ¬ isBlk vl 2 := fun h => by have := hb2 _ h; omega
  have hbl3 : ∀ i, isBlk vl i → i < P.length := fun i h => H1.lt i h
  have hnb3 : ∀ i, P.length ≤ i → ¬ isBlk vl i := fun i hi h => by have := hbl3 i h; omega
  obtain ⟨v1, v2⟩ := betterV_eq B hol' hown'
  rw [hs] at v1 v2
  obtain ⟨x, M5, ⟨a1, a2, z1, hx, hz1, hz2⟩, k5, H5, f5, _⟩ := H4.callE lp_share_Better rfl (a := VL b0 c0 z0 rs) hpv (r := []) rfl (by simp) (Q := fun x => ∃ a b c, x = .tup [IL a b c (s.getD []), .int .i64 (if s = none then 13 else 0)] ∧ (s.getD [] = [] ∨ c = 1) ∧ (a = true → s.getD [] = [])) (fun b c z p1 p2 => by
    obtain ⟨a, b', c', y1, y2, y3⟩ := betterP_f b0 c0 b c z0 z rs lo (in_lok Dl p1 p2)
    rw [v1, v2] at y3
    rw [v1] at y1 y2
    exact ⟨_, ⟨a, b', c', rfl, y1, y2⟩, y3⟩)
  subst hx
  have r2 : M5[2]? = some ⟨[VL b0 c0 z0 rs], true⟩ := by rw [f5 2 hnb2]; exact q2
  have rw' : M5[P.length + 1]? = some ⟨[wnt P.length L s], true⟩ := by rw [f5 _ (hnb3 _ (by omega))]; exact qw
  have rf : M5[P.length + 2]? = some ⟨[.bool s.isSome], true⟩ := by rw [f5 _ (hnb3 _ (by omega))]; exact qf
  have lVV : ((rs.map Row.lv)[0]?).bind lenL = some L := by rw [hrow0, Option.bind_some, hlen0]
  have hpure : LV.pures [LV.agg (bys w), LV.agg (bys cs)] = true := by simp only [LV.pures, LV.pure, hps, hps2, Bool.and_true]
  have hm : ∀ m, clF LP n_law07_Heap_made [.agg (bys w), .int .i64 4, .int .i64 5, .int .i64 9] m = some (.P, VL b0 c0 z0 rs, m) := hm
  have hof0 : ofAVs [.nilslice] = [.lst true true 0 0 []] := rfl
  have hof2 : ofAVs [.bool false] = [.bool false] := rfl
  have hcV : (VL b0 c0 z0 rs).cells = some [VL b0 c0 z0 rs] := rfl
  have hsV : LV.scalar (VL b0 c0 z0 rs) = true := rfl
  have hcW : (VL false true 1 (WR (vals rs) lo)).cells = some [VL false true 1 (WR (vals rs) lo)] := rfl
  have hsW : LV.scalar (VL false true 1 (WR (vals rs) lo)) = true := rfl
  have hca : ∀ cs, (LV.agg cs).cells = some cs := fun _ => rfl
  have hci : ∀ n : Int, (LV.int .i64 n).cells = some [.int .i64 n] := fun _ => rfl
  have hcb : ∀ b : Bool, (LV.bool b).cells = some [.bool b] := fun _ => rfl
  have hsb : ∀ b : Bool, LV.scalar (.bool b) = true := fun _ => rfl
  have hlv : ∀ i : Nat, i < rs.length → (rs.map Row.lv)[i]? = some (rs.map Row.lv)[i]! := fun i hi => by simp [hi]
  clear hlv
  obtain ⟨W, hW⟩ : ∃ W, W = VL false true 1 (WR (vals rs) lo) := ⟨_, rfl⟩
  rw [← hW] at hw k1 hcW hsW
  obtain ⟨M1, hM1⟩ : ∃ M, M = P ++ [(⟨[W], true⟩ : LBlk)] := ⟨_, rfl⟩
  obtain ⟨M2, hM2⟩ : ∃ M, M = M1 ++ [(⟨[.lst true true 0 0 []], true⟩ : LBlk)] := ⟨_, rfl⟩
  obtain ⟨M3, hM3⟩ : ∃ M, M = M2 ++ [(⟨[.bool false], true⟩ : LBlk)] := ⟨_, rfl⟩
  rw [← hM1, ← hM2, ← hM3] at hw
  have L1 : M1.length = P.length + 1 := by rw [hM1]; simp
  have L2 : M2.length = P.length + 2 := by rw [hM2]; simp [L1]
  have s1 : (P ++ [(⟨[.lst true true 0 0 []], true⟩ : LBlk)])[P.length]? = some ⟨[.lst true true 0 0 []], true⟩ := by simp
  have s2 : (P ++ [(⟨[.lst true true 0 0 []], true⟩ : LBlk)]).set P.length ⟨[W], true⟩ = M1 := by rw [hM1]; simp
  have s3 : M3[P.length + 2]? = some ⟨[.bool false], true⟩ := by rw [← L2, hM3]; simp
  have s4 : M3.set (P.length + 2) ⟨[.bool false], true⟩ = M3 := by rw [← L2, hM3]; simp
  have g32 : M3[2]? = some ⟨[VL b0 c0 z0 rs], true⟩ := by
    rw [hM3, hM2, hM1, List.append_assoc, List.append_assoc, List.getElem?_append_left hP2l]; exact hP2
  clear hfunc hcap hX
  refine call_P lp_law07_ShareBetter rfl hpure (m1 := M5) ?_ rfl []
  have h0r : 0 < rs.length := by omega
  have e3 : (P ++ [(⟨[VL false true 1 (WR (vals rs) lo)], true⟩ : LBlk)] ++ [(⟨[.lst true true 0 0 []], true⟩ : LBlk)] ++ [(⟨[.bool false], true⟩ : LBlk)]).length = P.length + 3 := by simp
  rw [e3] at hM4
  have hn5 : ¬ M5.length ≤ 2 := by have := (List.getElem?_eq_some_iff.1 r2).1; omega
  cases s with
  | none =>
    simp only [Option.getD_none, if_true] at k5
    have rf : M5[P.length + 2]? = some ⟨[.bool false], true⟩ := rf
    have r1 := betterR1 (IL a1 a2 z1 []) (.int .i64 13) rfl (.ptr 2 0 1) (.ptr (P.length + 1) 0 1) M5 rfl
    generalize bys w = ww at *
    generalize bys cs = wc at *
    generalize IL a1 a2 z1 [] = lq at *
    simp (maxSteps := 1000000) only [law07_ShareBetter, law07_ShareBetter.B, law07_ShareBetter.B.R0, beqT, beqF, exF_seq, exF_region, exF_block, exF_cond, exF_ret, exF_exit, exF_skip, runL, wantL, stepL, evL, evC, LEnv.at, putL, loadFine, loadL, cellsAt, Trk.putNew, Trk.up, Trk.touch, Trk.gives, Trk.calm, Trk.hit, opdsOf, Trk.fresh, LEnv.keep, LEnv.ofFrom, List.map_cons, List.map_nil, nbeq, nble, nblt, ofAV, ofAVs, bin_add, bin_sub, bin_mul, bin_eql, bin_neq, bin_lss, bin_leq, bin_gtr, bin_geq, natL_nat, natL_zero, natL_one, natL_two, Nat.zero_mul, List.any_cons, List.any_nil, Bool.or_false, Bool.false_or, Bool.true_or, Bool.or_true, Bool.and_true, Bool.true_and, Bool.and_false, Bool.false_and, Bool.not_true, Bool.not_false, Nat.reduceBEq, Nat.reduceEqDiff, decide_true, decide_false, cond_true, cond_false, List.filter_nil, List.filter_cons, Nat.reduceAdd, Nat.reduceLeDiff, reduceCtorEq, List.length_nil, List.length_cons, Nat.mul_one, if_true, if_false, Bool.false_eq_true, eq_self, and_true, true_and, retL, resultsL, resAllL, resOfL, List.append_nil, List.nil_append, List.cons_append, true_or, or_true, false_or, or_false, false_and, and_false, not_true_eq_false, not_false_eq_true, ne_eq, unL, trim_nil, views_pures, LV.pures, LV.pure, freeze, Nat.reduceDiv, Int.reduceEq, Int.reduceLT, Int.reduceLE, Int.natCast_zero, allocL, List.getElem?_cons_zero, List.getElem?_cons_succ, storeL, spliceL, List.take_zero, List.take_succ_cons, List.drop_zero, List.drop_succ_cons, List.drop_nil, List.take_nil, Nat.le_refl, Nat.reduceMul, List.set_cons_zero, List.set_cons_succ, List.all_cons, List.all_nil, Nat.lt_add_one, Nat.zero_lt_one, Nat.reduceLT, Nat.lt_irrefl, fillL, List.length_append, foldIntL, kind_beq, pures_int, solids_int, plains_int, unders_int, scalars_int, hbl, hbl2, htk, hm, hof0, hof2, hcV, hsV, hcW, hsW, hca, hci, hcb, hsb, k1, h02, h0r, hrow0, hlen0, l0, s1, s2, s3, s4, L1, L2, ← hM2, ← hM3, g32, hw, q2, k5, rf, r1]
  | some q =>
    have hqm := List.mem_of_find?_eq_some hs
    have hqb := List.find?_some hs
    have hql := allR_length _ _ _ hqm
    have hqr := allR_mem _ _ _ hqm
    have hne : ¬ ((some q : Option (List Int)) = none) := by simp
    rw [if_neg hne] at k5
    simp only [Option.getD_some] at k5 hz1 hz2
    have rf : M5[P.length + 2]? = some ⟨[.bool true], true⟩ := rf
    have rw' : M5[P.length + 1]? = some ⟨[CV (P.length + 4) L], true⟩ := rw'
    have hL5 : L ≤ 5 := by omega
    have hsame : clF LP n_law07_same [IL a1 a2 z1 q, CV (P.length + 4) L] M5 = some (.P, .bool true, M5) := by
      by_cases h0 : L = 0
      · obtain rfl : q = [] := List.length_eq_zero_iff.1 (by omega)
        unfold CV
        rw [if_pos h0]
        exact same_refl a1 a2 false true z1 0 [] (by simp) M5
      · have h7 : M5[P.length + 4]? = some ⟨ints q, true⟩ := by
          rw [f5 _ (hnb3 _ (by omega)), hM4, bm_trim2 _ _ _ _ _ h0]
          have := pget P ([⟨[VL false true 1 (WR (vals rs) lo)], true⟩, ⟨[wnt P.length L (some q)], true⟩, ⟨[.bool (some q).isSome], true⟩, ⟨ints (List.replicate L 0), wow L (some q)⟩] ++ wblk L (some q)) 4
          unfold BMf
          rw [this]
          simp [wblk, h0]
        unfold CV
        rw [if_neg h0]
        have hv : ∀ k, view (k + 3) M5 (.sl (P.length + 4) 0 L L 1 1 L) = some (IL false false 1 q, [P.length + 4]) := fun k => by
          have hqne : q ≠ [] := fun e => by rw [e] at hql; simp at hql; omega
          exact view_at hql h7 hqne k
        exact call_view lp_law07_same rfl (views_in M5 (IL a1 a2 z1 q) _ _ _ [] hv (by simp [LV.pure]) rfl rfl (by simp)) (by simp [LV.pures, LV.pure]) (same_refl a1 a2 false false z1 1 q (by omega) []) rfl
    have l3 := better_L3 B b0 c0 z0 M5 r2 50 0 q a1 a2 z1 (by omega) hql hqr hz1 hz2
    rw [Int.natCast_zero] at l3
    generalize CV (P.length + 4) L = cv at *
    generalize bys w = ww at *
    generalize bys cs = wc at *
    generalize IL a1 a2 z1 q = lq at *
    rcases l3 with l3 | l3
    · simp (maxSteps := 1000000) only [law07_ShareBetter, law07_ShareBetter.B, law07_ShareBetter.B.R0, law07_ShareBetter.B.R2, beqT, beqF, exF_seq, exF_region, exF_block, exF_cond, exF_ret, exF_exit, exF_skip, runL, wantL, stepL, evL, evC, LEnv.at, putL, loadFine, loadL, cellsAt, Trk.putNew, Trk.up, Trk.touch, Trk.gives, Trk.calm, Trk.hit, opdsOf, Trk.fresh, LEnv.keep, LEnv.ofFrom, List.map_cons, List.map_nil, nbeq, nble, nblt, ofAV, ofAVs, bin_add, bin_sub, bin_mul, bin_eql, bin_neq, bin_lss, bin_leq, bin_gtr, bin_geq, natL_nat, natL_zero, natL_one, natL_two, Nat.zero_mul, List.any_cons, List.any_nil, Bool.or_false, Bool.false_or, Bool.true_or, Bool.or_true, Bool.and_true, Bool.true_and, Bool.and_false, Bool.false_and, Bool.not_true, Bool.not_false, Nat.reduceBEq, Nat.reduceEqDiff, decide_true, decide_false, cond_true, cond_false, List.filter_nil, List.filter_cons, Nat.reduceAdd, Nat.reduceLeDiff, reduceCtorEq, List.length_nil, List.length_cons, Nat.mul_one, if_true, if_false, Bool.false_eq_true, eq_self, and_true, true_and, retL, resultsL, resAllL, resOfL, List.append_nil, List.nil_append, List.cons_append, true_or, or_true, false_or, or_false, false_and, and_false, not_true_eq_false, not_false_eq_true, ne_eq, unL, trim_nil, views_pures, LV.pures, LV.pure, freeze, Nat.reduceDiv, Int.reduceEq, Int.reduceLT, Int.reduceLE, Int.natCast_zero, allocL, List.getElem?_cons_zero, List.getElem?_cons_succ, storeL, spliceL, List.take_zero, List.take_succ_cons, List.drop_zero, List.drop_succ_cons, List.drop_nil, List.take_nil, Nat.le_refl, Nat.reduceMul, List.set_cons_zero, List.set_cons_succ, List.all_cons, List.all_nil, Nat.lt_add_one, Nat.zero_lt_one, Nat.reduceLT, Nat.lt_irrefl, fillL, List.length_append, foldIntL, kind_beq, pures_int, solids_int, plains_int, unders_int, scalars_int, hbl, hbl2, htk, hm, hof0, hof2, hcV, hsV, hcW, hsW, hca, hci, hcb, hsb, k1, h02, h0r, hrow0, hlen0, l0, s1, s2, s3, s4, L1, L2, ← hM2, ← hM3, g32, hw, q2, k5, rf, rw', hsame, l3, works_c]
    · simp (maxSteps := 1000000) only [law07_ShareBetter, law07_ShareBetter.B, law07_ShareBetter.B.R0, law07_ShareBetter.B.R2, beqT, beqF, exF_seq, exF_region, exF_block, exF_cond, exF_ret, exF_exit, exF_skip, runL, wantL, stepL, evL, evC, LEnv.at, putL, loadFine, loadL, cellsAt, Trk.putNew, Trk.up, Trk.touch, Trk.gives, Trk.calm, Trk.hit, opdsOf, Trk.fresh, LEnv.keep, LEnv.ofFrom, List.map_cons, List.map_nil, nbeq, nble, nblt, ofAV, ofAVs, bin_add, bin_sub, bin_mul, bin_eql, bin_neq, bin_lss, bin_leq, bin_gtr, bin_geq, natL_nat, natL_zero, natL_one, natL_two, Nat.zero_mul, List.any_cons, List.any_nil, Bool.or_false, Bool.false_or, Bool.true_or, Bool.or_true, Bool.and_true, Bool.true_and, Bool.and_false, Bool.false_and, Bool.not_true, Bool.not_false, Nat.reduceBEq, Nat.reduceEqDiff, decide_true, decide_false, cond_true, cond_false, List.filter_nil, List.filter_cons, Nat.reduceAdd, Nat.reduceLeDiff, reduceCtorEq, List.length_nil, List.length_cons, Nat.mul_one, if_true, if_false, Bool.false_eq_true, eq_self, and_true, true_and, retL, resultsL, resAllL, resOfL, List.append_nil, List.nil_append, List.cons_append, true_or, or_true, false_or, or_false, false_and, and_false, not_true_eq_false, not_false_eq_true, ne_eq, unL, trim_nil, views_pures, LV.pures, LV.pure, freeze, Nat.reduceDiv, Int.reduceEq, Int.reduceLT, Int.reduceLE, Int.natCast_zero, allocL, List.getElem?_cons_zero, List.getElem?_cons_succ, storeL, spliceL, List.take_zero, List.take_succ_cons, List.drop_zero, List.drop_succ_cons, List.drop_nil, List.take_nil, Nat.le_refl, Nat.reduceMul, List.set_cons_zero, List.set_cons_succ, List.all_cons, List.all_nil, Nat.lt_add_one, Nat.zero_lt_one, Nat.reduceLT, Nat.lt_irrefl, fillL, List.length_append, foldIntL, kind_beq, pures_int, solids_int, plains_int, unders_int, scalars_int, hbl, hbl2, htk, hm, hof0, hof2, hcV, hsV, hcW, hsW, hca, hci, hcb, hsb, k1, h02, h0r, hrow0, hlen0, l0, s1, s2, s3, s4, L1, L2, ← hM2, ← hM3, g32, hw, q2, k5, rf, rw', hsame, l3, works_c]
end Go.Am.Share

/-
  THE JOIN: arguments that came in, as the list machine's lists; what the list machine's answer says of the model's call.
-/
set_option linter.unusedVariables false
namespace Go.Am
variable [Glo]
open Go.RowKit

def Placed (ρ : PM) (b : Nat) (ps : List Place) : Prop := ∀ (i : Nat) (p : Place), ps[i]? = some p → ρ (b + i) = some p
def Shows (s : Sit) (b : Nat) (bl : List (List AV)) : Prop := ∀ (i : Nat) (cs : List AV), bl[i]? = some cs → s.A (b + i) ∧ s.am.look (b + i) = some ⟨cs, false⟩

/-- An argument that reads as a value of the list machine. -/
def ArgOk (w : World) (v : Value) (lv : LV) : Prop :=
  ∃ (bl : Nat → List (List AV)) (ps : List Place) (av : Nat → AV), (∀ b, (bl b).length = ps.length) ∧
    (∀ (ρ : PM) (b : Nat), Placed ρ b ps → VR ρ (av b) v ∧ ∀ (i : Nat) (cs : List AV) (p : Place), (bl b)[i]? = some cs → ps[i]? = some p → CellsAt ρ w cs p) ∧
    (∀ (s : Sit) (b : Nat), Shows s b (bl b) → LR s lv (av b))
inductive ArgsOk (w : World) : List Value → List LV → Prop
  | nil : ArgsOk w [] []
  | cons {v : Value} {lv : LV} {vs : List Value} {lvs : List LV} (h : ArgOk w v lv) (hr : ArgsOk w vs lvs) : ArgsOk w (v :: vs) (lv :: lvs)

omit [Glo] in
theorem append_get {α : Type} (a b : List α) (i : Nat) (x : α) (h : (a ++ b)[i]? = some x) : (i < a.length ∧ a[i]? = some x) ∨ (a.length ≤ i ∧ b[i - a.length]? = some x) := by
  by_cases hi : i < a.length
  · rw [List.getElem?_append_left hi] at h; exact .inl ⟨hi, h⟩
  · rw [List.getElem?_append_right (by omega)] at h; exact .inr ⟨by omega, h⟩

omit [Glo] in
theorem args_all {w : World} : ∀ {vs : List Value} {lvs : List LV}, ArgsOk w vs lvs → ∃ (bl : Nat → List (List AV)) (ps : List Place) (avs : Nat → List AV), (∀ b, (bl b).length = ps.length) ∧
    (∀ (ρ : PM) (b : Nat), Placed ρ b ps → VRs ρ (avs b) vs ∧ ∀ (i : Nat) (cs : List AV) (p : Place), (bl b)[i]? = some cs → ps[i]? = some p → CellsAt ρ w cs p) ∧
    (∀ (s : Sit) (b : Nat), Shows s b (bl b) → LRs s lvs (avs b))
  | _, _, .nil => ⟨fun _ => [], [], fun _ => [], fun _ => rfl, fun ρ b _ => ⟨.nil, fun i cs p h => by simp at h⟩, fun s b _ => .nil⟩
  | _, _, .cons h hr => by
    obtain ⟨bl1, ps1, av1, a1, a2, a3⟩ := h
    obtain ⟨bl2, ps2, av2, b1, b2, b3⟩ := args_all hr
    refine ⟨fun b => bl1 b ++ bl2 (b + ps1.length), ps1 ++ ps2, fun b => av1 b :: av2 (b + ps1.length), fun b => by simp [a1, b1], fun ρ b hp => ?_, fun s b hs => ?_⟩
    · have hp1 : Placed ρ b ps1 := fun i p h => hp i p (by rw [List.getElem?_append_left (List.getElem?_eq_some_iff.1 h).1]; exact h)
      have hp2 : Placed ρ (b + ps1.length) ps2 := fun i p h => by
        have := hp (ps1.length + i) p (by rw [List.getElem?_append_right (by omega)]; simpa using h)
        rw [Nat.add_assoc]; exact this
      obtain ⟨c1, c2⟩ := a2 ρ b hp1
      obtain ⟨d1, d2⟩ := b2 ρ _ hp2
      refine ⟨.cons c1 d1, fun i cs p hcs hpp => ?_⟩
      rcases append_get _ _ _ _ hcs with ⟨e1, e2⟩ | ⟨e1, e2⟩
      · rw [a1] at e1
        rw [List.getElem?_append_left e1] at hpp
        exact c2 i cs p e2 hpp
      · rw [a1] at e1 e2
        rw [List.getElem?_append_right e1] at hpp
        exact d2 _ cs p e2 hpp
    · refine .cons (a3 s b fun i cs h => hs i cs (by rw [List.getElem?_append_left (List.getElem?_eq_some_iff.1 h).1]; exact h)) (b3 s _ fun i cs h => ?_)
      have := hs (ps1.length + i) cs (by rw [List.getElem?_append_right (by rw [a1]; omega)]; rw [a1]; simpa using h)
      rw [Nat.add_assoc]; exact this

/-- Where the package-level variables lie. -/
def gPlaces (n : Nat) : List Place := (List.range n).map fun g => ⟨g, 0, 0⟩
omit [Glo] in
theorem gPlaces_get {n g : Nat} {p : Place} (h : (gPlaces n)[g]? = some p) : p = ⟨g, 0, 0⟩ := by
  unfold gPlaces at h
  rw [List.getElem?_map] at h
  obtain ⟨x, hx, rfl⟩ := Option.map_eq_some_iff.1 h
  have hg := (List.getElem?_eq_some_iff.1 hx).1
  simp at hg
  rw [List.getElem?_range hg] at hx
  cases hx; rfl

/-- WHAT A LAW's WALK ASKS OF THE LIST MACHINE. -/
theorem law_glob {P : Program} {C : Prog} {LP : LProg} (hC : ProgOk C P) (hmix : P.follows .mixedOrders = true) (hL : ProgL LP C) {f : Nat} {lvs : List LV} {md : Mode} {m' : LMem} (h : clF LP f lvs [] = some (md, .bool true, m'))
    {w : World} {cargs : Array Value} (ha : ArgsOk w cargs.toList lvs) (gb : List (List AV)) (hgb : gb.length = P.globals.size) (hT : ∀ g l, Glo.tab g = some l → gb[g]? = some l) (hcell : ∀ (ρ : PM) (g : Nat) (cs : List AV), gb[g]? = some cs → CellsAt ρ w cs ⟨g, 0, 0⟩) :
    Calls P f cargs w fun e w' => e = .returned (.bool true) ∧ Below w.heap.size w w' := by
  obtain ⟨bl, ps, avs, h1, h2, h3⟩ := args_all ha
  obtain ⟨n, hn⟩ := clF_some.1 h
  generalize hN : gb.length = N at hgb
  generalize hall : gb ++ bl N = all
  have hget : ∀ (i : Nat) (cs : List AV), (bl N)[i]? = some cs → all[N + i]? = some cs := fun i cs hi => by
    rw [← hall, List.getElem?_append_right (by omega), hN, Nat.add_sub_cancel_left]; exact hi
  have hs : Shows ⟨[], memOf all, fun _ => 0, fun b => b < all.length⟩ N (bl N) := fun i cs hi =>
    ⟨(List.getElem?_eq_some_iff.1 (hget i cs hi)).1, by show (memOf all).look (N + i) = _; rw [memOf_look, hget i cs hi]; rfl⟩
  have hrel : Rel2 ⟨[], memOf all, fun _ => 0, fun b => b < all.length⟩ := by
    refine ⟨fun i b hb => by simp at hb, fun i j b b' hb => by simp at hb, fun b hb => ?_, fun b ab hb => ?_, fun g l hg => ?_⟩
    · have hb : b < all.length := hb
      exact ⟨⟨all[b], false⟩, by show (memOf all).look b = _; rw [memOf_look, List.getElem?_eq_getElem hb]; rfl⟩
    · have hb : (memOf all).look b = some ab := hb
      show b < (memOf all).next
      rw [memOf_next]
      rw [memOf_look] at hb
      obtain ⟨x, hx, _⟩ := Option.map_eq_some_iff.1 hb
      exact (List.getElem?_eq_some_iff.1 hx).1
    · have e : all[g]? = some l := by
        have := hT g l hg
        rw [← hall, List.getElem?_append_left (List.getElem?_eq_some_iff.1 this).1]; exact this
      exact ⟨(List.getElem?_eq_some_iff.1 e).1, by show (memOf all).look g = _; rw [memOf_look, e]; rfl⟩
  obtain ⟨av, am', h4, t, _, _, _, _, h5, _⟩ := callL_sound hL n f lvs [] md (.bool true) m' hn _ (avs N) rfl hrel (h3 _ N hs)
  cases h5
  generalize hpl : gPlaces N ++ ps = pl
  have hgl : (gPlaces N).length = N := by simp [gPlaces]
  have hplaced : Placed (placesOf pl) N ps := fun i p hp => by
    show pl[N + i]? = some p
    rw [← hpl, List.getElem?_append_right (by omega), hgl, Nat.add_sub_cancel_left]; exact hp
  obtain ⟨h6, h7⟩ := h2 (placesOf pl) N hplaced
  refine law_calls hC hmix (l := all) (ps := pl) h4 (by rw [← hall, ← hpl, List.length_append, List.length_append, h1, hgl, hN]) (fun i cs p hcs hp => ?_) h6 fun g hg => ?_
  · rw [← hall] at hcs
    rw [← hpl] at hp
    rcases append_get _ _ _ _ hcs with ⟨e1, e2⟩ | ⟨e1, e2⟩
    · rw [List.getElem?_append_left (by omega)] at hp
      rw [gPlaces_get hp]
      exact hcell _ i cs e2
    · rw [List.getElem?_append_right (by omega), hgl] at hp
      rw [hN] at e2
      exact h7 _ cs p e2 hp
  · have hg : g < N := by omega
    refine ⟨⟨g, 0, 0⟩, ?_, rfl, rfl⟩
    show pl[g]? = _
    rw [← hpl, List.getElem?_append_left (by omega)]
    simp [gPlaces, hg]

theorem law_list {P : Program} {C : Prog} {LP : LProg} (hC : ProgOk C P) (hmix : P.follows .mixedOrders = true) (hL : ProgL LP C) {f : Nat} {lvs : List LV} {md : Mode} {m' : LMem} (h : clF LP f lvs [] = some (md, .bool true, m')) (hG : P.globals.size = 0) (hT : ∀ g, Glo.tab g = none)
    {w : World} {cargs : Array Value} (ha : ArgsOk w cargs.toList lvs) : Calls P f cargs w fun e w' => e = .returned (.bool true) ∧ Below w.heap.size w w' :=
  law_glob hC hmix hL h ha [] (by simp [hG]) (fun g l hg => by rw [hT g] at hg; cases hg) (fun ρ g cs hg => by simp at hg)
end Go.Am

/-
  THE JOIN, 2: lists of numbers, and lists of lists, that came in.
-/
set_option linter.unusedVariables false
namespace Go.Am
variable [Glo]
open Go.ChangeShapes Go.RowKit Go.Deep

end Go.Am

/-
  THE JOIN, 3: arguments read behind the call as before it.
-/
set_option linter.unusedVariables false
namespace Go.Am
variable [Glo]
open Go.RowKit
omit [Glo] in
theorem trodAll_below {H : Type} {enc : TypeId × Value → H} {P : Program} {W W' : World} (hl : laidOutB P = true) (hb : Below W.heap.size W W') : ∀ {ts : List TypeId} {vs : List Value} {ds : List (DataW H)} {ps : List MemPlace}, (ts.all fun t => P.readableRec t && decide (t < P.types.size)) = true →
    DataW.TrodAll enc P W 0 (fun _ => true) true ts vs ds ps → (∀ x ∈ ps, x.block < W.heap.size) → DataW.TrodAll enc P W' 0 (fun b => decide (b < W.heap.size)) true ts vs ds ps
  | [], [], [], _, _, h, _ => h
  | t :: ts, v :: vs, d :: ds, ps, hr, ⟨p, q, h1, h2, e⟩, hlt => by
    simp only [List.all_cons, Bool.and_eq_true, decide_eq_true_eq] at hr
    subst e
    exact ⟨p, q, Below.trod hl hr.1.1 hr.1.2 h1 hb (fun x hx => hlt x (List.mem_append_left _ hx)), trodAll_below hl hb hr.2 h2 (fun x hx => hlt x (List.mem_append_right _ hx)), rfl⟩
end Go.Am

/-
  THE JOIN, 4: structs of bytes that came in.
-/
set_option linter.unusedVariables false
namespace Go.Am
variable [Glo]
open Go.RowKit

/-! ### Types that hold bytes alone -/
def sumPc : Nat → List (Nat × Nat) → Option Nat
  | off, [] => some off
  | off, (o, k) :: r => cond (Nat.beq o off) (sumPc (off + k) r) none
def pcsF (P : Program) (g : TypeId → Option Nat) : List Field → Option (List (Nat × Nat))
  | [] => some []
  | f :: r => match g f.type with
    | some k => match pcsF P g r with
      | some l => cond (Nat.beq (P.cellsOf f.type) k) (some ((f.offset, k) :: l)) none
      | none => none
    | none => none
/-- How many bytes. -/
def u8T (P : Program) : Nat → TypeId → Option Nat
  | 0, _ => none
  | n + 1, t => match P.underlying t with
    | some (.int .u8) => some 1
    | some (.array m e) => match u8T P n e with
      | some k => cond (Nat.beq (P.cellsOf e) k && Nat.beq (P.cellsOf t) (m * k)) (some (m * k)) none
      | none => none
    | some (.struct fs) => match pcsF P (u8T P n) fs.toList with
      | some l => match sumPc 0 l with
        | some k => cond (Nat.beq (P.cellsOf t) k) (some k) none
        | none => none
      | none => none
    | _ => none
def U8s (cs : List Value) : Prop := ∀ (i : Nat) (v : Value), cs[i]? = some v → ∃ n : Int, v = .int .u8 n ∧ (Lit.int .u8 n).wf = true

omit [Glo] in
theorem sumPc_in : ∀ (l : List (Nat × Nat)) (off tot : Nat), sumPc off l = some tot → ∀ i, off ≤ i → i < tot → ∃ p ∈ l, p.1 ≤ i ∧ i < p.1 + p.2
  | [], off, tot, h, i, h1, h2 => by simp only [sumPc, Option.some.injEq] at h; omega
  | (o, k) :: r, off, tot, h, i, h1, h2 => by
    simp only [sumPc] at h
    cases c : Nat.beq o off <;> rw [c] at h
    · cases h
    · have e : o = off := by simpa using c
      subst e
      by_cases hi : i < o + k
      · exact ⟨(o, k), by simp, h1, hi⟩
      · obtain ⟨p, hp, h3⟩ := sumPc_in r _ _ h i (by omega) h2
        exact ⟨p, by simp [hp], h3⟩
omit [Glo] in
theorem pcsF_in {P : Program} {g : TypeId → Option Nat} : ∀ (fs : List Field) (l : List (Nat × Nat)), pcsF P g fs = some l → ∀ p ∈ l, ∃ (i : Nat) (f : Field), fs[i]? = some f ∧ f.offset = p.1 ∧ g f.type = some p.2 ∧ P.cellsOf f.type = p.2
  | [], l, h, p, hp => by simp only [pcsF, Option.some.injEq] at h; subst h; cases hp
  | f :: r, l, h, p, hp => by
    simp only [pcsF] at h
    split at h
    · rename_i k hk
      split at h
      · rename_i l' hl'
        cases c : Nat.beq (P.cellsOf f.type) k <;> rw [c] at h
        · cases h
        · simp only [cond_true, Option.some.injEq] at h
          subst h
          rcases List.mem_cons.1 hp with rfl | hp
          · exact ⟨0, f, rfl, rfl, hk, by simpa using c⟩
          · obtain ⟨i, f', h1, h2⟩ := pcsF_in r l' hl' p hp
            exact ⟨i + 1, f', by simpa using h1, h2⟩
      · cases h
    · cases h

section
variable {H : Type} {enc : TypeId × Value → H} {P : Program} {w : World} {base : Nat} {sp : Nat → Bool} {held : Bool}
omit [Glo] in
theorem u8T_ok : ∀ (n : Nat) (t : TypeId) (fuel : Nat) (cs : List Value) (x : DataW H × List MemPlace) (k : Nat), u8T P n t = some k → DataW.trod enc P w base sp held fuel t cs = some x → U8s cs ∧ cs.length = k
  | 0, _, _, _, _, _, h, _ => by cases h
  | n + 1, t, fuel, cs, x, k, h, hx => by
    simp only [u8T] at h
    split at h
    · rename_i ht
      cases h
      obtain ⟨a, rfl, _, hw⟩ := DataW.trod_int ht hx
      refine ⟨fun i v hv => ?_, rfl⟩
      match i with
      | 0 => simp at hv; subst hv; exact ⟨a, rfl, hw⟩
      | i + 1 => simp at hv
    · rename_i m e ht
      split at h
      · rename_i k' hk'
        cases c : (Nat.beq (P.cellsOf e) k' && Nat.beq (P.cellsOf t) (m * k')) <;> rw [c] at h
        · cases h
        · simp only [cond_true, Option.some.injEq] at h
          subst h
          simp only [Bool.and_eq_true] at c
          have c1 : P.cellsOf e = k' := by simpa using c.1
          have c2 : P.cellsOf t = m * k' := by simpa using c.2
          obtain ⟨xs, m', _, _, hl, hxl, hf⟩ := DataW.trod_array ht hx
          rw [c2] at hl
          refine ⟨fun i v hv => ?_, hl⟩
          have hi : i < m * k' := by rw [← hl]; exact (List.getElem?_eq_some_iff.1 hv).1
          have hk0 : 0 < k' := by
            rcases Nat.eq_zero_or_pos k' with e0 | e0
            · rw [e0] at hi; simp at hi
            · exact e0
          have h1 : i / k' < m := (Nat.div_lt_iff_lt_mul hk0).2 hi
          have h2 : i % k' < k' := Nat.mod_lt _ hk0
          have h3 : (i / k') * k' + i % k' = i := by rw [Nat.mul_comm]; exact Nat.div_add_mod i k'
          have h4 := hf (i / k') h1
          rw [c1] at h4
          obtain ⟨y, hy⟩ : ∃ y, xs[i / k']? = some y := ⟨xs[i / k']'(by omega), List.getElem?_eq_getElem (by omega)⟩
          rw [hy] at h4
          obtain ⟨h5, _⟩ := u8T_ok n e m' _ y k' hk' h4
          refine h5 (i % k') v ?_
          rw [List.getElem?_take, if_pos h2, List.getElem?_drop, h3]
          exact hv
      · cases h
    · rename_i fs ht
      split at h
      · rename_i l hl'
        split at h
        · rename_i k' hk'
          cases c : Nat.beq (P.cellsOf t) k' <;> rw [c] at h
          · cases h
          · simp only [cond_true, Option.some.injEq] at h
            subst h
            have c2 : P.cellsOf t = k' := by simpa using c
            obtain ⟨xs, m', _, _, hl, hxl, hf⟩ := DataW.trod_struct ht hx
            rw [c2] at hl
            refine ⟨fun i v hv => ?_, hl⟩
            have hi : i < k' := by rw [← hl]; exact (List.getElem?_eq_some_iff.1 hv).1
            obtain ⟨p, hp, p1, p2⟩ := sumPc_in l 0 k' hk' i (Nat.zero_le _) hi
            obtain ⟨j, f, f1, f2, f3, f4⟩ := pcsF_in _ _ hl' p hp
            have f1' : fs[j]? = some f := by simpa using f1
            have hj : j < fs.size := (Array.getElem?_eq_some_iff.1 f1').1
            have h4 := hf j f f1'
            rw [f4, f2] at h4
            obtain ⟨y, hy⟩ : ∃ y, xs[j]? = some y := ⟨xs[j]'(by omega), List.getElem?_eq_getElem (by omega)⟩
            rw [hy] at h4
            obtain ⟨h5, _⟩ := u8T_ok n f.type m' _ y p.2 f3 h4
            refine h5 (i - p.1) v ?_
            rw [List.getElem?_take, if_pos (by omega), List.getElem?_drop, show p.1 + (i - p.1) = i by omega]
            exact hv
        · cases h
      · cases h
    · cases h

omit [Glo] in
theorem u8s_list : ∀ {cs : List Value}, U8s cs → ∃ ns : List Int, cs = ns.map (Value.int .u8) ∧ ∀ n ∈ ns, 0 ≤ n ∧ n < 256
  | [], _ => ⟨[], rfl, by simp⟩
  | v :: r, h => by
    obtain ⟨n, rfl, hw⟩ := h 0 v rfl
    obtain ⟨ns, e, hb⟩ := u8s_list (cs := r) fun i v hv => h (i + 1) v (by simpa using hv)
    refine ⟨n :: ns, by rw [e]; rfl, ?_⟩
    intro x hx
    rcases List.mem_cons.1 hx with rfl | hx
    · have := bounds_u8 hw; omega
    · exact hb x hx

omit [Glo] in
theorem argOk_bytes (w : World) (ns : List Int) : ArgOk w (.agg (ns.map (Value.int .u8)).toArray) (.agg (ns.map (LV.int .u8))) := by
  refine ⟨fun _ => [], [], fun _ => .agg (ns.map (AV.int .u8)), fun _ => rfl, fun ρ b _ => ⟨.agg ?_, fun i cs p h => by simp at h⟩, fun s b _ => .agg ?_⟩
  · show VRs ρ _ (ns.map (Value.int .u8)).toArray.toList
    simp only []
    induction ns with
    | nil => exact .nil
    | cons n r ih => exact .cons (.int _ _) ih
  · exact LRs.map _ fun x _ => .int _ _

omit [Glo] in
/-- A struct of bytes among the arguments. -/
theorem argOk_struct {r : Reach} {b0 n k : Nat} {t : TypeId} {fs : Array Field} {v : Value} {d : DataW H} {ps : List MemPlace} (ht : P.underlying t = some (.struct fs)) (hk : u8T P n t = some k)
    (hval : Value.okWide P w r b0 t v) (hd : DataW.Trod enc P w base sp held t v d ps) :
    ∃ ns : List Int, ns.length = k ∧ (∀ n ∈ ns, 0 ≤ n ∧ n < 256) ∧ ArgOk w v (.agg (ns.map (LV.int .u8))) := by
  obtain ⟨cs, rfl, _⟩ := Go.WideShapes.okWide_struct ht hval
  obtain ⟨fuel, hf⟩ := hd
  obtain ⟨h1, h2⟩ := u8T_ok n t fuel _ _ k hk hf
  obtain ⟨ns, e, hb⟩ := u8s_list h1
  have e' : cs = (ns.map (Value.int .u8)).toArray := by
    apply Array.ext'
    simpa [Value.cells] using e
  subst e'
  refine ⟨ns, ?_, hb, argOk_bytes w ns⟩
  simpa [Value.cells] using h2
omit [Glo] in
/-- An array of bytes among the arguments. -/
theorem argOk_array {r : Reach} {b0 n k m : Nat} {t e : TypeId} {v : Value} {d : DataW H} {ps : List MemPlace} (ht : P.underlying t = some (.array m e)) (hk : u8T P n t = some k)
    (hval : Value.okWide P w r b0 t v) (hd : DataW.Trod enc P w base sp held t v d ps) :
    ∃ ns : List Int, ns.length = k ∧ (∀ n ∈ ns, 0 ≤ n ∧ n < 256) ∧ ArgOk w v (.agg (ns.map (LV.int .u8))) := by
  obtain ⟨cs, rfl, _⟩ : ∃ cs, v = .agg cs ∧ cs.size = P.cellsOf t := by
    simp only [Value.okWide, ht] at hval
    obtain ⟨cs, h1, h2, _⟩ := hval
    exact ⟨cs, h1, h2⟩
  obtain ⟨fuel, hf⟩ := hd
  obtain ⟨h1, h2⟩ := u8T_ok n t fuel _ _ k hk hf
  obtain ⟨ns, e, hb⟩ := u8s_list h1
  have e' : cs = (ns.map (Value.int .u8)).toArray := by
    apply Array.ext'
    simpa [Value.cells] using e
  subst e'
  refine ⟨ns, ?_, hb, argOk_bytes w ns⟩
  simpa [Value.cells] using h2
end
end Go.Am


