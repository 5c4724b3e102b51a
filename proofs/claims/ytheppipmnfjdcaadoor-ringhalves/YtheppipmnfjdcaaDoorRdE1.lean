import Derived.Test.YtheppipmnfjdcaaDoorRdE0
import Derived.Test.YtheppipmnfjdcaaDoorRdP11
import Derived.Test.YtheppipmnfjdcaaDoorRdD1
import Derived.Carry
import Derived.LaidMore
import Derived.MakeChecks
/-
  What functions of chapter 04 compute, by tables 1: an order and the opposite one; the law RingHalves.
-/
set_option linter.unusedVariables false
set_option linter.unusedSimpArgs false
set_option maxRecDepth 10000
set_option maxHeartbeats 1000000
namespace Go.Am.Ring
open Go.Am.G

theorem chkO_nodup (L : Nat) : ∀ (r pre : List Nat), (∀ k ∈ r, k < L) → chkO (L : Int) (ci pre) (ci r) = if r.Nodup ∧ (∀ k ∈ r, k ∉ pre) then 0 else 6
  | [], pre, _ => by
    rw [if_pos ⟨List.nodup_nil, by simp⟩]; rfl
  | x :: r, pre, h => by
    have hx := h x (by simp)
    show chkO (L : Int) (ci pre) ((x : Int) :: ci r) = _
    rw [chkO, if_pos (show 0 ≤ (x : Int) ∧ (x : Int) < (L : Int) by omega)]
    have e : ci pre ++ [(x : Int)] = ci (pre ++ [x]) := by simp
    rw [e, chkO_nodup L r (pre ++ [x]) fun k hk => h k (by simp [hk])]
    by_cases c : x ∈ pre
    · rw [if_pos ((ci_mem pre x).2 c), if_neg (fun hh => hh.2 x (by simp) c)]
    · rw [if_neg (fun hh => c ((ci_mem pre x).1 hh))]
      congr 1
      rw [List.nodup_cons]
      apply propext
      constructor
      · rintro ⟨h1, h2⟩
        refine ⟨⟨fun hm => h2 x hm (by simp), h1⟩, fun k hk => ?_⟩
        rcases List.mem_cons.1 hk with rfl | hk
        · exact c
        · exact fun hp => h2 k hk (by simp [hp])
      · rintro ⟨⟨h1, h2⟩, h3⟩
        refine ⟨h2, fun k hk hp => ?_⟩
        rcases List.mem_append.1 hp with hp | hp
        · exact h3 k (by simp [hk]) hp
        · rw [List.mem_singleton.1 hp] at hk; exact h1 hk
/-! ### An order backwards -/
theorem pos_idx : ∀ (o : List Nat) (x : Nat), x ∈ o → pos o x = (o.idxOf x : Int)
  | [], x, h => by simp at h
  | f :: r, x, h => by
    rw [pos_cons]
    by_cases c : f = x
    · subst c; rw [if_pos rfl, List.idxOf_cons_self]; rfl
    · rw [if_neg c, List.idxOf_cons, show (f == x) = false from beq_eq_false_iff_ne.2 c, cond_false]
      have hx : x ∈ r := by
        rcases List.mem_cons.1 h with e | e
        · exact absurd e.symm c
        · exact e
      rw [if_pos hx, pos_idx r x hx]
      simp
theorem nodup_rev {o : List Nat} (h : o.Nodup) : o.reverse.Nodup := List.pairwise_reverse.2 (List.Pairwise.imp (fun h => h.symm) h)
theorem pos_rev {o : List Nat} (hnd : o.Nodup) {x : Nat} (hx : x ∈ o) : pos o.reverse x = (o.length : Int) - 1 - pos o x := by
  have hx' : x ∈ o.reverse := List.mem_reverse.2 hx
  have h1 := List.idxOf_lt_length_iff.2 hx
  rw [pos_idx _ _ hx', pos_idx _ _ hx]
  have hr : o.reverse.Nodup := nodup_rev hnd
  have hl : o.length - 1 - o.idxOf x < o.reverse.length := by rw [List.length_reverse]; omega
  have e : o.reverse[o.length - 1 - o.idxOf x] = x := by
    rw [List.getElem_reverse]
    have : o.length - 1 - (o.length - 1 - o.idxOf x) = o.idxOf x := by omega
    simp only [this]
    exact List.getElem_idxOf h1
  have h2 := hr.idxOf_getElem (o.length - 1 - o.idxOf x) hl
  rw [e] at h2
  rw [h2]; omega
theorem bad_rev {n : Nat} {P : List (Nat × Nat)} (G : Good n P) {o : List Nat} (ho : o ∈ ords n) {i : Nat} (hi : i < P.length) : badI P o.reverse i = !badI P o i := by
  obtain ⟨h1, h2, h3, h4⟩ := ords_ok ho
  obtain ⟨s1, s2, s3⟩ := st_lt G hi
  unfold badI
  rw [pos_rev h1 (h4 _ s1), pos_rev h1 (h4 _ s2), ← decide_not]
  rw [decide_eq_decide]
  have hne : pos o (st P i) ≠ pos o (en P i) := by
    rw [pos_idx _ _ (h4 _ s1), pos_idx _ _ (h4 _ s2)]
    intro e
    have e' : o.idxOf (st P i) = o.idxOf (en P i) := by omega
    have a := List.getElem_idxOf (List.idxOf_lt_length_iff.2 (h4 _ s1))
    have b := List.getElem_idxOf (List.idxOf_lt_length_iff.2 (h4 _ s2))
    simp only [e'] at a
    exact s3 (a.symm.trans b)
  omega
theorem ords_rev {n : Nat} {o : List Nat} (h : o ∈ ords n) : o.reverse ∈ ords n := by
  obtain ⟨h1, h2, h3⟩ := ords_iff.1 h
  exact ords_iff.2 ⟨nodup_rev h1, by rw [List.length_reverse]; exact h2, fun x hx => h3 x (List.mem_reverse.1 hx)⟩
theorem num_ext {a b : Nat} (h : ∀ i, i < 12 → a.testBit i = b.testBit i) : numL a = numL b := List.filter_congr fun i hi => h i (List.mem_range.1 hi)
theorem num_rev {n : Nat} {P : List (Nat × Nat)} (G : Good n P) {o : List Nat} (ho : o ∈ ords n) : numL (andN (2 ^ P.length - 1) (msk P o)) = numL (msk P o.reverse) := by
  have h12 := G.le12
  have hp : 2 ^ P.length ≤ 2 ^ 12 := Nat.pow_le_pow_right (by omega) h12
  refine num_ext fun i _ => ?_
  rw [andN_bit _ _ _ (by omega), Nat.testBit_two_pow_sub_one, mskK_bit, mskK_bit]
  by_cases c : i < P.length
  · rw [bad_rev G ho c]; simp [c]
  · simp [c]
theorem contr_bad (P : List (Nat × Nat)) (o : List Nat) : contr P o = (List.range P.length).countP (badI P o) := by
  have e : P = (List.range P.length).map fun i => (st P i, en P i) := by
    apply List.ext_getElem?
    intro i
    rw [List.getElem?_map]
    by_cases h : i < P.length
    · rw [List.getElem?_range h, List.getElem?_eq_getElem h, Option.map_some, st, en, getD_at P i _ h]
    · rw [List.getElem?_eq_none (by omega), List.getElem?_eq_none (by simp; omega)]; rfl
  unfold contr
  conv => lhs; rw [e]
  rw [List.countP_map]; rfl
theorem contr_rev {n : Nat} {P : List (Nat × Nat)} (G : Good n P) {o : List Nat} (ho : o ∈ ords n) : contr P o + contr P o.reverse = P.length := by
  rw [contr_bad, contr_bad]
  have h := List.length_eq_countP_add_countP (badI P o) (l := List.range P.length)
  rw [List.length_range] at h
  have e : (List.range P.length).countP (badI P o.reverse) = (List.range P.length).countP fun a => decide ¬ badI P o a = true := List.countP_congr fun i hi => by
    rw [bad_rev G ho (List.mem_range.1 hi)]; simp
  rw [e]; omega

/-! ### Calls that are shown a list of forms -/
theorem views3 {m : LMem} {x y v v' : LV} {ids : List Nat} (h : ∀ k, view (k + 3) m v = some (v', ids)) (hx : x.pure = true) (hy : y.pure = true) (hv : v.pure = false) : views m [x, y, v] = some ([x, y, v'], ids) := by
  show viewL 100 m _ = _
  rw [viewL.eq_def]
  simp only [show LV.pures [x, y, v] = false by simp [LV.pures, hv], cond_false]
  rw [viewC.eq_def]
  simp only [view_pure 96 m x hx]
  rw [viewC.eq_def]
  simp only [view_pure 95 m y hy]
  rw [viewC.eq_def]
  simp only [h 93]
  rw [viewC.eq_def]
  simp only [List.append_nil, List.nil_append]
theorem view_ord {m : LMem} {i : Nat} {o : List Nat} {w : Bool} (h : m[i]? = some ⟨ints (ci o), w⟩) (n : Nat) (hn : o.length = n) (k : Nat) : view (k + 3) m (.sl i 0 n n 1 1 n) = some (IL false false 1 (ci o), [i]) := by
  have := view_sl k m i 0 n n 1 (ci o) w h (by rw [ci_len, hn]) (by omega) n (Nat.le_refl _)
  rw [List.drop_zero, List.take_of_length_le (by rw [ci_len]; omega)] at this
  exact this
theorem agn_ord {n : Nat} {P : List (Nat × Nat)} (G : Good n P) {o : List Nat} (ho : o ∈ ords n) : againstV (n : Int) (P.map castP) (ci o) = (ci (numL (msk P o)), 0) := by
  obtain ⟨h1, h2, h3⟩ := ords_iff.1 ho
  unfold againstV
  have hk := chkO_nodup n o [] h3
  rw [if_pos ⟨h1, by simp⟩] at hk
  have hk : chkO (n : Int) [] (ci o) = 0 := hk
  rw [chkF_of G, if_pos rfl, if_pos (by rw [ci_len, h2]), hk, if_pos rfl, agn_bad G]
theorem halves0 (X3 X6 : LV) (pre : LMem) (n : Nat) (hn : n ≤ 6) (d : Nat) : ∀ x, x + d = n →
    exF LP law04_RingHalves.L0 [(3, X3), (5, .int .i64 (n : Int)), (6, X6), (7, GV pre.length (ci (List.range x))), (8, .lst true true 0 0 []), (25, .int .i64 (n : Int)), (26, .int .i64 (x : Int))] (pre ++ GM (ci (List.range x))) =
      some (.exit 0, [(3, X3), (5, .int .i64 (n : Int)), (6, X6), (7, GV pre.length (ci (List.range n))), (8, .lst true true 0 0 [])], pre ++ GM (ci (List.range n))) := by
  induction d with
  | zero =>
    intro x hx
    obtain rfl : x = n := by omega
    rw [law04_RingHalves.L0_eq]
    simp only [law04_RingHalves.B0, exF_seq, exF_region, exF_cond, exF_exit, runL, wantL, stepL, evL, LEnv.at, putL, loadFine, LEnv.keep, List.map_cons, List.map_nil, nbeq, bin_lss, Nat.reduceEqDiff, decide_true, decide_false, cond_true, cond_false, eq_self, Int.lt_irrefl]
  | succ d ih =>
    intro x hx
    have ih := ih (x + 1) (by omega)
    have ha := append_grow pre (ci (List.range x)) (x : Int) true (by simp; omega)
    have e : ci (List.range (x + 1)) = ci (List.range x) ++ [(x : Int)] := by simp [List.range_succ]
    rw [e] at ih
    rw [law04_RingHalves.L0_eq]
    generalize pre ++ GM (ci (List.range x) ++ [(x : Int)]) = M2 at *
    generalize GV pre.length (ci (List.range x) ++ [(x : Int)]) = v2 at *
    generalize pre ++ GM (ci (List.range x)) = M1 at *
    generalize GV pre.length (ci (List.range x)) = v1 at *
    have hvi : ∀ m (x : Int), views m [.int .i64 x] = some ([.int .i64 x], []) := fun m x => rfl
    have hci : ∀ (x : Int), (LV.int .i64 x).cells = some [.int .i64 x] := fun x => rfl
    simp only [law04_RingHalves.B0, exF_seq, exF_region, exF_block, exF_cond, exF_skip, runL, wantL, stepL, evL, evC, LEnv.at, putL, loadFine, LEnv.keep, List.map_cons, List.map_nil, nbeq, nble, ofAV, ofAVs, bin_add, bin_lss, Bool.or_false, Bool.and_true, Nat.reduceEqDiff, decide_true, decide_false, cond_true, cond_false, Nat.reduceAdd, reduceCtorEq, List.length_nil, List.length_cons, Nat.mul_one, eq_self, List.append_nil, List.nil_append, Nat.reduceDiv, spliceL, List.take_zero, List.take_succ_cons, List.drop_succ_cons, List.drop_nil, List.take_nil, Nat.le_refl, fillL, show ((x : Int) < (n : Int)) by omega, hvi, freeze_nil, hci, ha, wrap_succ (show x + 1 < 9223372036854775808 by omega), ih]
theorem halves1 (X6 : LV) (W : LBlk) (bs : List Nat) (hb6 : bs.length = 6) (hb : ∀ x ∈ bs, x < 256) (n : Nat) (hn : n ≤ 6) (d : Nat) : ∀ (i : Nat) (left out : List Nat) (Z : List LV), i + d = n → left.length = d → Z.length = i → out.length = i →
    ∃ Z', exF LP law04_RingHalves.L1 [(3, .ptr 1 0 6), (5, .int .i64 (n : Int)), (6, X6), (7, .sl 2 0 d n 1 1 n), (8, GV 3 (ci out)), (34, .int .i64 (n : Int)), (35, .int .i64 (i : Int))] ([W, ⟨bys bs, true⟩, ⟨ints (ci left) ++ Z, true⟩] ++ GM (ci out)) =
      some (.exit 2, [(5, .int .i64 (n : Int)), (6, X6), (8, GV 3 (ci (drw bs d i left out)))], [W, ⟨bys bs, true⟩, ⟨Z', true⟩] ++ GM (ci (drw bs d i left out))) := by
  induction d with
  | zero =>
    intro i left out Z hi hl hz ho
    obtain rfl : i = n := by omega
    refine ⟨ints (ci left) ++ Z, ?_⟩
    rw [law04_RingHalves.L1_eq]
    simp only [law04_RingHalves.B1, exF_seq, exF_region, exF_cond, exF_exit, runL, wantL, stepL, evL, LEnv.at, putL, loadFine, LEnv.keep, List.map_cons, List.map_nil, nbeq, bin_lss, Nat.reduceEqDiff, decide_true, decide_false, cond_true, cond_false, eq_self, Int.lt_irrefl, drw]
  | succ d ih =>
    intro i left out Z hi hl hz ho
    have hib : i < bs.length := by omega
    have hk : bs.getD i 0 % left.length < left.length := Nat.mod_lt _ (by omega)
    rw [drw]
    have hge : bs.getD i 0 = bs[i] := getD_at bs i 0 hib
    have hat : (bys bs)[i]? = some (.int .u8 ((bs.getD i 0 : Nat) : Int)) := by rw [bys_at bs i hib, hge]
    have hbl : (bys bs).length = 6 := by simp [hb6]
    have hw : IntKind.i64.wrap ((bs.getD i 0 : Nat) : Int) = ((bs.getD i 0 : Nat) : Int) := conv8 (by rw [hge]; exact hb _ (List.getElem_mem hib))
    have hrem : binL .rem (.int .i64 ((bs.getD i 0 : Nat) : Int)) (.int .i64 ((d + 1 : Nat) : Int)) = some (.int .i64 ((bs.getD i 0 % left.length : Nat) : Int)) := by
      rw [bin_rem (k := .i64) (a := ((bs.getD i 0 : Nat) : Int)) (b := ((d + 1 : Nat) : Int)) (show ((d + 1 : Nat) : Int) ≠ 0 by omega), hl, tmod_nat]
    generalize bs.getD i 0 % left.length = k at hk hrem ⊢
    generalize bs.getD i 0 = bi at hat hw hrem
    have hcell : (ints (ci left) ++ Z)[k]? = some (.int .i64 ((left.getD k 0 : Nat) : Int)) := by
      rw [List.getElem?_append_left (by simpa using hk), getD_at left k 0 hk]
      simp [hk]
    have hll : (ints (ci left) ++ Z).length = n := by simp; omega
    have ha := append_grow [W, ⟨bys bs, true⟩, ⟨ints (ci left) ++ Z, true⟩] (ci out) ((left.getD k 0 : Nat) : Int) true (by rw [ci_len]; omega)
    have eo : ci out ++ [((left.getD k 0 : Nat) : Int)] = ci (out ++ [left.getD k 0]) := by simp
    rw [eo] at ha
    have esp : left = left.take k ++ left[k] :: left.drop (k + 1) := by rw [← List.drop_eq_getElem_cons hk, List.take_append_drop]
    have el : ci left = ci (left.take k) ++ ((left[k] : Nat) : Int) :: ci (left.drop (k + 1)) := by
      have := congrArg ci esp
      simpa only [ci, List.map_append, List.map_cons] using this
    have la : (ci (left.take k)).length = k := by rw [ci_len, List.length_take]; omega
    have lb : (ci (left.drop (k + 1))).length = d - k := by rw [ci_len, List.length_drop]; omega
    have hd := delete_c ([W, ⟨bys bs, true⟩, ⟨ints (ci left) ++ Z, true⟩] ++ GM (ci (out ++ [left.getD k 0]))) 2 (ci (left.take k)) (ci (left.drop (k + 1))) ((left[k] : Nat) : Int) Z n n (by rw [← el]; rfl) (by omega) (by omega) (by omega)
    rw [la, lb, show k + 1 + (d - k) = d + 1 by omega, show k + (d - k) = d by omega] at hd
    have ee : ints (ci (left.take k) ++ ci (left.drop (k + 1))) = ints (ci (left.eraseIdx k)) := by rw [List.eraseIdx_eq_take_drop_succ]; simp
    rw [ee] at hd
    simp only [List.cons_append, List.nil_append, List.set_cons_succ, List.set_cons_zero] at hd
    obtain ⟨Z', ih⟩ := ih (i + 1) (left.eraseIdx k) (out ++ [left.getD k 0]) (.int .i64 0 :: Z) (by omega) (by rw [List.length_eraseIdx, if_pos hk]; omega) (by simp; omega) (by simp; omega)
    refine ⟨Z', ?_⟩
    simp only [List.cons_append, List.nil_append] at ih ha ⊢
    rw [law04_RingHalves.L1_eq]
    generalize out ++ [left.getD k 0] = out' at *
    generalize GM (ci out') = gm' at *
    generalize GV 3 (ci out') = gv' at *
    simp only [List.length_cons, List.length_nil, Nat.zero_add, Nat.reduceAdd] at ha
    simp only [law04_RingHalves.B1, law04_RingHalves.B1.R0, law04_RingHalves.B1.R1, exF_seq, exF_region, exF_block, exF_cond, exF_skip, runL, wantL, stepL, evL, evC, LEnv.at, putL, loadFine, loadL, cellsAt, Trk.putNew, Trk.up, Trk.touch, Trk.gives, Trk.calm, Trk.hit, opdsOf, Trk.fresh, LEnv.keep, List.map_cons, List.map_nil, nbeq, nble, nblt, ofAV, ofAVs, lenL, bin_add, bin_lss, natL_nat, List.any_cons, List.any_nil, Bool.or_false, Bool.or_true, Bool.and_true, Bool.false_and, Bool.not_true, Bool.not_false, Nat.reduceEqDiff, decide_true, decide_false, cond_true, cond_false, List.filter_nil, Nat.reduceAdd, Nat.reduceLeDiff, reduceCtorEq, List.length_nil, List.length_cons, Nat.mul_one, eq_self, List.append_nil, List.nil_append, LV.pures, LV.pure, freeze, Nat.reduceDiv, LV.cells, List.getElem?_cons_zero, List.getElem?_cons_succ, spliceL, List.take_zero, List.take_succ_cons, List.drop_succ_cons, List.drop_nil, List.take_nil, Nat.le_refl, fillL, show ((i : Int) < (n : Int)) by omega, show i < 6 by omega, hbl, hat, hw, hrem, show k < d + 1 by omega, hll, hcell, Nat.zero_add, ha, views, viewL, hd, wrap_succ (show k + 1 < 9223372036854775808 by omega), wrap_succ (show i + 1 < 9223372036854775808 by omega), ih]
theorem halves_law (f k : Nat) (hf : f < 256) (hk : k < 256) (bs : List Nat) (hb : bs.length = 24) (hbs : ∀ x ∈ bs, x < 256) (cs : List Nat) (hc6 : cs.length = 6) (hcs : ∀ x ∈ cs, x < 256) :
    clF LP n_law04_RingHalves [.agg (bys (f :: k :: bs)), .agg (bys cs)] [] = some (.P, .bool true, []) := by
  obtain ⟨a, b, z, hv, hmade⟩ := made_c f k hf hk bs hb hbs 6 12 (by omega) (by omega)
  have hn : 2 ≤ 2 + f % (6 - 1) ∧ 2 + f % (6 - 1) ≤ 6 := by omega
  have hkk : k % (12 + 1) ≤ 12 := by omega
  have G := made_good hn.1 hn.2 bs (i := k % (12 + 1)) (by omega)
  generalize madeP (2 + f % (6 - 1)) bs (k % (12 + 1)) = P at *
  generalize (2 + f % (6 - 1) : Nat) = n at *
  have hlen : (bys (f :: k :: bs)).length = 26 := by simp [hb]
  have htk : (bys (f :: k :: bs)).take 26 = bys (f :: k :: bs) := List.take_of_length_le (by rw [hlen]; exact Nat.le_refl _)
  have hlen2 : (bys cs).length = 6 := by simp [hc6]
  let W : LBlk := ⟨bys (f :: k :: bs), true⟩
  have h0 := fun X3 X6 => halves0 X3 X6 [W, ⟨bys cs, true⟩] n hn.2 n 0 (by omega)
  obtain ⟨Z', h1⟩ := halves1 (FN a b z P) W cs hc6 hcs n hn.2 n 0 (List.range n) [] [] (by omega) (by simp) rfl rfl
  have hgv : GV 2 (ci (List.range n)) = .sl 2 0 n n 1 1 n := by
    have : ci (List.range n) ≠ [] := by
      intro c; have := congrArg List.length c; simp at this; omega
    simp [GV]; omega
  have hgm : GM (ci (List.range n)) = [⟨ints (ci (List.range n)), true⟩] := by
    have : ci (List.range n) ≠ [] := by
      intro c; have := congrArg List.length c; simp at this; omega
    simp [GM]; omega
  have hdl := drawn_len n cs
  have hto : drawn n cs ∈ ords n := ords_iff.2 ⟨drawn_nodup n cs, hdl, fun x hx => (drawn_mem n cs x).1 hx⟩
  have hdef : drw cs n 0 (List.range n) [] = drawn n cs := rfl
  rw [hdef] at h1
  generalize drawn n cs = to at *
  have hne : ci to ≠ [] := by
    intro c; have := congrArg List.length c; rw [ci_len, hdl] at this; simp at this; omega
  have hgv3 : GV 3 (ci to) = .sl 3 0 n n 1 1 n := by simp only [GV, if_neg hne, ci_len, hdl]
  have hgm3 : GM (ci to) = [⟨ints (ci to), true⟩] := by simp only [GM, if_neg hne]
  rw [hgv3, hgm3] at h1
  have e0 : GV 3 (ci []) = .lst true true 0 0 [] := rfl
  have e1 : GM (ci []) = [] := rfl
  rw [e0, e1] at h1
  have e2 : ci (List.range 0) = [] := rfl
  rw [e2] at h0
  have e3 : ∀ q, GV q [] = .lst true true 0 0 [] := fun q => rfl
  have e4 : GM [] = [] := rfl
  simp only [List.length_cons, List.length_nil, Nat.zero_add, Nat.reduceAdd, e3, e4, hgv, hgm, List.append_nil, List.cons_append, List.nil_append] at h0 h1
  -- the opposite order
  have hrev := ords_rev hto
  let M0 : LMem := [W, ⟨bys cs, true⟩, ⟨Z', true⟩, ⟨ints (ci to), true⟩]
  have hclo := cloneI_m (args := [.sl 3 0 n n 1 1 n]) (m := M0) false (ci to) (by rw [ci_len]; omega) hne (views_one 92 M0 _ _ [3] (fun k => view_ord (w := true) rfl n hdl k) rfl)
  simp only [ci_len, hdl] at hclo
  obtain ⟨M1, hrv, hr4, hrk, hrl⟩ := rev_w (ci to) n (by rw [ci_len, hdl]) (by omega) (by omega) 4 (M0 ++ [⟨ints (ci to), true⟩]) rfl
  have hcr : (ci to).reverse = ci to.reverse := by rw [← List.map_reverse]
  rw [hcr] at hr4
  have hr3 : M1[3]? = some ⟨ints (ci to), true⟩ := by rw [hrk 3 (by omega)]; rfl
  -- the calls
  have hpu : ∀ o : List Nat, LV.pures [.int .i64 (n : Int), FN a b z P, IL false false 1 (ci o)] = true := fun o => by simp [LV.pures, LV.pure]
  have hpF : (FN a b z P).pure = true := rfl
  have hA := fun o (ho : o ∈ ords n) => agnP_c a b false false z 1 (n : Int) (P.map castP) (ci o) (by have := G.le12; simp; omega) (by rw [ci_len, (ords_iff.1 ho).2.1]; omega) []
  have hA1 := hA to hto
  have hA2 := hA to.reverse hrev
  rw [agn_ord G hto] at hA1
  rw [agn_ord G hrev] at hA2
  obtain ⟨M2, hG1, _, hl2, hs2⟩ := call_shown2 lp_ring_Against rfl (views3 (fun k => view_ord hr3 n hdl k) rfl hpF rfl) (hpu to) hA1
  obtain ⟨w24, h24⟩ := hs2 4 _ _ hr4
  obtain ⟨w23, h23⟩ := hs2 3 _ _ hr3
  have hrvl : to.reverse.length = n := by rw [List.length_reverse, hdl]
  obtain ⟨M3, hG2, _, hl3, hs3⟩ := call_shown2 lp_ring_Against rfl (views3 (fun k => view_ord h24 n hrvl k) rfl hpF rfl) (hpu to.reverse) hA2
  obtain ⟨w33, h33⟩ := hs3 3 _ _ h23
  have hmk := call_view lp_law04_against rfl (m := M3) (args := [FN a b z P, .sl 3 0 n n 1 1 n]) (vs := [FN a b z P, IL false false 1 (ci to)]) (ids := [3]) (views_snd 92 M3 _ _ _ [3] (fun k => view_ord h33 n hdl k) hpF (by simp [LV.pures, LV.pure])) (by simp [LV.pures, LV.pure]) (mask_c G a b z false false 1 to (by omega) []) rfl
  have hF := fun m => fewest_c n P G a b z m
  have hFe : (fwD anyM P n 0).1 = FW n P := rfl
  rw [hFe] at hF
  have h12 := G.le12
  have hml : msk P to < 4096 := mskK_lt P to P.length h12
  have hp := Nat.pow_pos (a := 2) (n := P.length) (by omega)
  have hp12 : 2 ^ P.length ≤ 2 ^ 12 := Nat.pow_le_pow_right (by omega) h12
  have hal := andN_lt (2 ^ P.length - 1) (msk P to) 12 (by omega) (by omega)
  obtain ⟨x1, y1, z1, _, hN1⟩ := numbers_c hml
  obtain ⟨x2, y2, z2, _, hN2⟩ := numbers_c hal
  rw [num_rev G hto] at hN2
  have hle1 := num_le (msk P to)
  have hle2 := num_le (msk P to.reverse)
  have hc1 := msk_len G to
  have hc2 := msk_len G to.reverse
  have hsum := contr_rev G hto
  have hf1 := FW_le G hto
  have hf2 := FW_le G hrev
  have hS1 := fun m => same_c (decide (ci (numL (msk P to)) = [])) (decide (ci (numL (msk P to)) = [])) x1 y1 (cond (decide (ci (numL (msk P to)) = [])) 0 1) z1 (ci (numL (msk P to))) (ci (numL (msk P to))) (by rw [ci_len]; omega) (by rw [ci_len]; omega) m
  have hS2 := fun m => same_c (decide (ci (numL (msk P to.reverse)) = [])) (decide (ci (numL (msk P to.reverse)) = [])) x2 y2 (cond (decide (ci (numL (msk P to.reverse)) = [])) 0 1) z2 (ci (numL (msk P to.reverse))) (ci (numL (msk P to.reverse))) (by rw [ci_len]; omega) (by rw [ci_len]; omega) m
  simp only [decide_true] at hS1 hS2
  have hR : ∀ l : List Int, IL (decide (l = [])) (decide (l = [])) (cond (decide (l = [])) 0 1) l = RL l := fun l => rfl
  rw [hR] at hS1 hS2
  have lR1 : lenL (RL (ci (numL (msk P to)))) = some (contr P to) := by
    show some (ci (numL (msk P to))).length = _
    rw [ci_len, hc1]
  have lR2 : lenL (RL (ci (numL (msk P to.reverse)))) = some (contr P to.reverse) := by
    show some (ci (numL (msk P to.reverse))).length = _
    rw [ci_len, hc2]
  have lP : lenL (FN a b z P) = some P.length := by rw [FN_eq]; rfl
  have hshl := bits_shl (show P.length < 64 by omega)
  have hsub := bits_pred (a := 2 ^ P.length) (by omega) hp
  have hand := bits_andNot (a := 2 ^ P.length - 1) (b := msk P to) (by omega) (by omega)
  have e6 : ((6 : Nat) : Int) = 6 := rfl
  have e12 : ((12 : Nat) : Int) = 12 := rfl
  rw [e6, e12] at hmade
  have hmul : binL .mul (.int .i64 2) (.int .i64 ((FW n P : Nat) : Int)) = some (.int .i64 ((2 * FW n P : Nat) : Int)) := by
    rw [bin_mul, wrap_in (by omega)]
    congr 2
  have g0 : (0 : Int) ≤ ((FW n P : Nat) : Int) := by omega
  have g1 : ((2 * FW n P : Nat) : Int) ≤ (P.length : Int) := by omega
  have g2 : ((FW n P : Nat) : Int) ≤ (if ((contr P to.reverse : Nat) : Int) < ((contr P to : Nat) : Int) then ((contr P to.reverse : Nat) : Int) else ((contr P to : Nat) : Int)) := by split <;> omega
  simp only [Int.natCast_zero] at h0 h1
  simp only [] at hG1 hG2
  refine call_P lp_law04_RingHalves rfl (by simp only [LV.pures, LV.pure, pures_int, Bool.and_self]) (m1 := M3) ?_ rfl []
  simp only [W, M0] at h0 h1 hclo hrv
  simp only [List.cons_append, List.nil_append, List.length_cons, List.length_nil, Nat.zero_add, Nat.reduceAdd] at hclo hrv
  generalize RL (ci (numL (msk P to))) = V1 at *
  generalize RL (ci (numL (msk P to.reverse))) = V2 at *
  generalize IL x1 y1 z1 (ci (numL (msk P to))) = U1 at *
  generalize IL x2 y2 z2 (ci (numL (msk P to.reverse))) = U2 at *
  generalize contr P to = c1 at *
  generalize contr P to.reverse = c2 at *
  generalize (2 * FW n P : Nat) = fw2 at *
  generalize (FW n P : Nat) = fw at *
  generalize (andN (2 ^ P.length - 1) (msk P to) : Nat) = am at *
  generalize msk P to = mk at *
  generalize (2 ^ P.length - 1 : Nat) = ev at *
  generalize (2 ^ P.length : Nat) = pw at *
  generalize FN a b z P = FP at *
  generalize bys (f :: k :: bs) = Wb at *
  generalize bys cs = Cb at *
  generalize ints (ci to) = TO at *
  generalize ints (ci (List.range n)) = RG at *
  simp only [law04_RingHalves, law04_RingHalves.B, law04_RingHalves.B.R0, law04_RingHalves.B.R1, law04_RingHalves.B.R2, law04_RingHalves.B.R3]
  repeat (rw [exF_seq]; try simp only [beqT, exF_seq, exF_region, exF_block, exF_ret, runL, wantL, stepL, evL, evC, LEnv.at, putL, loadFine, loadL, cellsAt, Trk.calm, Trk.hit, LEnv.keep, LEnv.ofFrom, List.map_cons, List.map_nil, nbeq, nble, ofAVs, bin_eql, bin_leq, bin_geq, List.any_nil, Bool.or_false, Bool.or_true, Bool.and_true, Bool.false_and, Bool.not_true, Bool.not_false, Nat.reduceEqDiff, decide_true, decide_false, cond_true, cond_false, Nat.reduceAdd, Nat.reduceLeDiff, reduceCtorEq, List.length_nil, List.length_cons, eq_self, retL, resultsL, resAllL, resOfL, List.append_nil, List.nil_append, List.cons_append, LV.cells, allocL, List.getElem?_cons_zero, List.getElem?_cons_succ, List.drop_zero, Nat.le_refl, foldIntL, kind_beq, hlen, htk, hlen2, hmade, h0, h1, hclo, hrv, hG1, hG2, hF, lP, hshl, hsub, hmk, hN1, hS1, hand, hN2, hS2, g0, hmul, g1, lR1, lR2, g2, works_c])
theorem halves_in (ns : List Int) (hl : ns.length = 26) (h : ∀ x ∈ ns, 0 ≤ x ∧ x < 256) (ms : List Int) (hl2 : ms.length = 6) (h2 : ∀ x ∈ ms, 0 ≤ x ∧ x < 256) : clF LP n_law04_RingHalves [.agg (ns.map (LV.int .u8)), .agg (ms.map (LV.int .u8))] [] = some (.P, .bool true, []) := by
  obtain ⟨f, k, bs, e, hf, hk, hb, hbs⟩ := lay_of ns hl h
  obtain ⟨cs, rfl, hcs, hcl⟩ := bys_of ms h2
  rw [e]
  exact halves_law f k hf hk bs hb hbs cs (by omega) hcs
end Go.Am.Ring

/-
  THE JOIN, 3: arguments read behind the call as before it.
-/
set_option linter.unusedVariables false
namespace Go.Am
variable [Glo]
open Go.RowKit
omit [Glo] in
theorem trodAll_below {H : Type} {enc : TypeId × Value → H} {P : Program} {W W' : World} (hl : laidOutB P = true) (hb : Below W.heap.size W W') : ∀ {ts : List TypeId} {vs : List Value} {ds : List (DataW H)} {ps : List MemPlace}, (ts.all fun t => P.readableRec t && decide (t < P.types.size)) = true →
    DataW.TrodAll enc P W 0 (fun _ => true) true ts vs ds ps → (∀ x ∈ ps, x.block < W.heap.size) → DataW.TrodAll enc P W' 0 (fun b => decide (b < W.heap.size)) true ts vs ds ps
  | [], [], [], _, _, h, _ => h
  | t :: ts, v :: vs, d :: ds, ps, hr, ⟨p, q, h1, h2, e⟩, hlt => by
    simp only [List.all_cons, Bool.and_eq_true, decide_eq_true_eq] at hr
    subst e
    exact ⟨p, q, Below.trod hl hr.1.1 hr.1.2 h1 hb (fun x hx => hlt x (List.mem_append_left _ hx)), trodAll_below hl hb hr.2 h2 (fun x hx => hlt x (List.mem_append_right _ hx)), rfl⟩
end Go.Am

/-
  THE JOIN, 4: structs of bytes that came in.
-/
set_option linter.unusedVariables false
namespace Go.Am
variable [Glo]
open Go.RowKit

/-! ### Types that hold bytes alone -/
def sumPc : Nat → List (Nat × Nat) → Option Nat
  | off, [] => some off
  | off, (o, k) :: r => cond (Nat.beq o off) (sumPc (off + k) r) none
def pcsF (P : Program) (g : TypeId → Option Nat) : List Field → Option (List (Nat × Nat))
  | [] => some []
  | f :: r => match g f.type with
    | some k => match pcsF P g r with
      | some l => cond (Nat.beq (P.cellsOf f.type) k) (some ((f.offset, k) :: l)) none
      | none => none
    | none => none
/-- How many bytes. -/
def u8T (P : Program) : Nat → TypeId → Option Nat
  | 0, _ => none
  | n + 1, t => match P.underlying t with
    | some (.int .u8) => some 1
    | some (.array m e) => match u8T P n e with
      | some k => cond (Nat.beq (P.cellsOf e) k && Nat.beq (P.cellsOf t) (m * k)) (some (m * k)) none
      | none => none
    | some (.struct fs) => match pcsF P (u8T P n) fs.toList with
      | some l => match sumPc 0 l with
        | some k => cond (Nat.beq (P.cellsOf t) k) (some k) none
        | none => none
      | none => none
    | _ => none
def U8s (cs : List Value) : Prop := ∀ (i : Nat) (v : Value), cs[i]? = some v → ∃ n : Int, v = .int .u8 n ∧ (Lit.int .u8 n).wf = true

omit [Glo] in
theorem sumPc_in : ∀ (l : List (Nat × Nat)) (off tot : Nat), sumPc off l = some tot → ∀ i, off ≤ i → i < tot → ∃ p ∈ l, p.1 ≤ i ∧ i < p.1 + p.2
  | [], off, tot, h, i, h1, h2 => by simp only [sumPc, Option.some.injEq] at h; omega
  | (o, k) :: r, off, tot, h, i, h1, h2 => by
    simp only [sumPc] at h
    cases c : Nat.beq o off <;> rw [c] at h
    · cases h
    · have e : o = off := by simpa using c
      subst e
      by_cases hi : i < o + k
      · exact ⟨(o, k), by simp, h1, hi⟩
      · obtain ⟨p, hp, h3⟩ := sumPc_in r _ _ h i (by omega) h2
        exact ⟨p, by simp [hp], h3⟩
omit [Glo] in
theorem pcsF_in {P : Program} {g : TypeId → Option Nat} : ∀ (fs : List Field) (l : List (Nat × Nat)), pcsF P g fs = some l → ∀ p ∈ l, ∃ (i : Nat) (f : Field), fs[i]? = some f ∧ f.offset = p.1 ∧ g f.type = some p.2 ∧ P.cellsOf f.type = p.2
  | [], l, h, p, hp => by simp only [pcsF, Option.some.injEq] at h; subst h; cases hp
  | f :: r, l, h, p, hp => by
    simp only [pcsF] at h
    split at h
    · rename_i k hk
      split at h
      · rename_i l' hl'
        cases c : Nat.beq (P.cellsOf f.type) k <;> rw [c] at h
        · cases h
        · simp only [cond_true, Option.some.injEq] at h
          subst h
          rcases List.mem_cons.1 hp with rfl | hp
          · exact ⟨0, f, rfl, rfl, hk, by simpa using c⟩
          · obtain ⟨i, f', h1, h2⟩ := pcsF_in r l' hl' p hp
            exact ⟨i + 1, f', by simpa using h1, h2⟩
      · cases h
    · cases h

section
variable {H : Type} {enc : TypeId × Value → H} {P : Program} {w : World} {base : Nat} {sp : Nat → Bool} {held : Bool}
omit [Glo] in
theorem u8T_ok : ∀ (n : Nat) (t : TypeId) (fuel : Nat) (cs : List Value) (x : DataW H × List MemPlace) (k : Nat), u8T P n t = some k → DataW.trod enc P w base sp held fuel t cs = some x → U8s cs ∧ cs.length = k
  | 0, _, _, _, _, _, h, _ => by cases h
  | n + 1, t, fuel, cs, x, k, h, hx => by
    simp only [u8T] at h
    split at h
    · rename_i ht
      cases h
      obtain ⟨a, rfl, _, hw⟩ := DataW.trod_int ht hx
      refine ⟨fun i v hv => ?_, rfl⟩
      match i with
      | 0 => simp at hv; subst hv; exact ⟨a, rfl, hw⟩
      | i + 1 => simp at hv
    · rename_i m e ht
      split at h
      · rename_i k' hk'
        cases c : (Nat.beq (P.cellsOf e) k' && Nat.beq (P.cellsOf t) (m * k')) <;> rw [c] at h
        · cases h
        · simp only [cond_true, Option.some.injEq] at h
          subst h
          simp only [Bool.and_eq_true] at c
          have c1 : P.cellsOf e = k' := by simpa using c.1
          have c2 : P.cellsOf t = m * k' := by simpa using c.2
          obtain ⟨xs, m', _, _, hl, hxl, hf⟩ := DataW.trod_array ht hx
          rw [c2] at hl
          refine ⟨fun i v hv => ?_, hl⟩
          have hi : i < m * k' := by rw [← hl]; exact (List.getElem?_eq_some_iff.1 hv).1
          have hk0 : 0 < k' := by
            rcases Nat.eq_zero_or_pos k' with e0 | e0
            · rw [e0] at hi; simp at hi
            · exact e0
          have h1 : i / k' < m := (Nat.div_lt_iff_lt_mul hk0).2 hi
          have h2 : i % k' < k' := Nat.mod_lt _ hk0
          have h3 : (i / k') * k' + i % k' = i := by rw [Nat.mul_comm]; exact Nat.div_add_mod i k'
          have h4 := hf (i / k') h1
          rw [c1] at h4
          obtain ⟨y, hy⟩ : ∃ y, xs[i / k']? = some y := ⟨xs[i / k']'(by omega), List.getElem?_eq_getElem (by omega)⟩
          rw [hy] at h4
          obtain ⟨h5, _⟩ := u8T_ok n e m' _ y k' hk' h4
          refine h5 (i % k') v ?_
          rw [List.getElem?_take, if_pos h2, List.getElem?_drop, h3]
          exact hv
      · cases h
    · rename_i fs ht
      split at h
      · rename_i l hl'
        split at h
        · rename_i k' hk'
          cases c : Nat.beq (P.cellsOf t) k' <;> rw [c] at h
          · cases h
          · simp only [cond_true, Option.some.injEq] at h
            subst h
            have c2 : P.cellsOf t = k' := by simpa using c
            obtain ⟨xs, m', _, _, hl, hxl, hf⟩ := DataW.trod_struct ht hx
            rw [c2] at hl
            refine ⟨fun i v hv => ?_, hl⟩
            have hi : i < k' := by rw [← hl]; exact (List.getElem?_eq_some_iff.1 hv).1
            obtain ⟨p, hp, p1, p2⟩ := sumPc_in l 0 k' hk' i (Nat.zero_le _) hi
            obtain ⟨j, f, f1, f2, f3, f4⟩ := pcsF_in _ _ hl' p hp
            have f1' : fs[j]? = some f := by simpa using f1
            have hj : j < fs.size := (Array.getElem?_eq_some_iff.1 f1').1
            have h4 := hf j f f1'
            rw [f4, f2] at h4
            obtain ⟨y, hy⟩ : ∃ y, xs[j]? = some y := ⟨xs[j]'(by omega), List.getElem?_eq_getElem (by omega)⟩
            rw [hy] at h4
            obtain ⟨h5, _⟩ := u8T_ok n f.type m' _ y p.2 f3 h4
            refine h5 (i - p.1) v ?_
            rw [List.getElem?_take, if_pos (by omega), List.getElem?_drop, show p.1 + (i - p.1) = i by omega]
            exact hv
        · cases h
      · cases h
    · cases h

omit [Glo] in
theorem u8s_list : ∀ {cs : List Value}, U8s cs → ∃ ns : List Int, cs = ns.map (Value.int .u8) ∧ ∀ n ∈ ns, 0 ≤ n ∧ n < 256
  | [], _ => ⟨[], rfl, by simp⟩
  | v :: r, h => by
    obtain ⟨n, rfl, hw⟩ := h 0 v rfl
    obtain ⟨ns, e, hb⟩ := u8s_list (cs := r) fun i v hv => h (i + 1) v (by simpa using hv)
    refine ⟨n :: ns, by rw [e]; rfl, ?_⟩
    intro x hx
    rcases List.mem_cons.1 hx with rfl | hx
    · have := bounds_u8 hw; omega
    · exact hb x hx

omit [Glo] in
theorem argOk_bytes (w : World) (ns : List Int) : ArgOk w (.agg (ns.map (Value.int .u8)).toArray) (.agg (ns.map (LV.int .u8))) := by
  refine ⟨fun _ => [], [], fun _ => .agg (ns.map (AV.int .u8)), fun _ => rfl, fun ρ b _ => ⟨.agg ?_, fun i cs p h => by simp at h⟩, fun s b _ => .agg ?_⟩
  · show VRs ρ _ (ns.map (Value.int .u8)).toArray.toList
    simp only []
    induction ns with
    | nil => exact .nil
    | cons n r ih => exact .cons (.int _ _) ih
  · exact LRs.map _ fun x _ => .int _ _

omit [Glo] in
/-- A struct of bytes among the arguments. -/
theorem argOk_struct {r : Reach} {b0 n k : Nat} {t : TypeId} {fs : Array Field} {v : Value} {d : DataW H} {ps : List MemPlace} (ht : P.underlying t = some (.struct fs)) (hk : u8T P n t = some k)
    (hval : Value.okWide P w r b0 t v) (hd : DataW.Trod enc P w base sp held t v d ps) :
    ∃ ns : List Int, ns.length = k ∧ (∀ n ∈ ns, 0 ≤ n ∧ n < 256) ∧ ArgOk w v (.agg (ns.map (LV.int .u8))) := by
  obtain ⟨cs, rfl, _⟩ := Go.WideShapes.okWide_struct ht hval
  obtain ⟨fuel, hf⟩ := hd
  obtain ⟨h1, h2⟩ := u8T_ok n t fuel _ _ k hk hf
  obtain ⟨ns, e, hb⟩ := u8s_list h1
  have e' : cs = (ns.map (Value.int .u8)).toArray := by
    apply Array.ext'
    simpa [Value.cells] using e
  subst e'
  refine ⟨ns, ?_, hb, argOk_bytes w ns⟩
  simpa [Value.cells] using h2
omit [Glo] in
/-- An array of bytes among the arguments. -/
theorem argOk_array {r : Reach} {b0 n k m : Nat} {t e : TypeId} {v : Value} {d : DataW H} {ps : List MemPlace} (ht : P.underlying t = some (.array m e)) (hk : u8T P n t = some k)
    (hval : Value.okWide P w r b0 t v) (hd : DataW.Trod enc P w base sp held t v d ps) :
    ∃ ns : List Int, ns.length = k ∧ (∀ n ∈ ns, 0 ≤ n ∧ n < 256) ∧ ArgOk w v (.agg (ns.map (LV.int .u8))) := by
  obtain ⟨cs, rfl, _⟩ : ∃ cs, v = .agg cs ∧ cs.size = P.cellsOf t := by
    simp only [Value.okWide, ht] at hval
    obtain ⟨cs, h1, h2, _⟩ := hval
    exact ⟨cs, h1, h2⟩
  obtain ⟨fuel, hf⟩ := hd
  obtain ⟨h1, h2⟩ := u8T_ok n t fuel _ _ k hk hf
  obtain ⟨ns, e, hb⟩ := u8s_list h1
  have e' : cs = (ns.map (Value.int .u8)).toArray := by
    apply Array.ext'
    simpa [Value.cells] using e
  subst e'
  refine ⟨ns, ?_, hb, argOk_bytes w ns⟩
  simpa [Value.cells] using h2
end
end Go.Am

/-
  THE JOIN, 5: package-level tables of bytes that the call finds.
-/
set_option linter.unusedVariables false
namespace Go.Am
open Go.RowKit

theorem laid_u8 {H : Type} {enc : TypeId × Value → H} {P : Program} {w : World} {base : Nat} {sp : Nat → Bool} {held : Bool} {n : Nat} {e t : TypeId} {fuel : Nat} {cs : List Value} {l : List Int} {p : List MemPlace}
    (ht : P.underlying t = some (.array n e)) (he : P.underlying e = some (.int .u8)) (hc : P.cellsOf e = 1) (hct : P.cellsOf t = n)
    (hd : DataW.trod enc P w base sp held fuel t cs = some (.agg (l.map fun x => .lit (.int .u8 x)), p)) : cs = l.map (Value.int .u8) := by
  obtain ⟨xs, m, _, hx1, hlen, hn, hel⟩ := DataW.trod_array ht hd
  simp only [Prod.mk.injEq, DataW.agg.injEq] at hx1
  have hl : l.length = n := by
    have := congrArg List.length hx1.1
    simpa [hn] using this
  rw [hct] at hlen
  apply List.ext_getElem (by simp [hlen, hl])
  intro i h1 h2
  have hi : i < n := by omega
  have h := hel i hi
  rw [hc, Nat.mul_one, List.getElem?_eq_getElem (by omega)] at h
  obtain ⟨k, e1, e2, _⟩ := DataW.trod_int he h
  have e3 : (xs.map (·.1))[i]? = (l.map fun x => DataW.lit (Lit.int .u8 x))[i]? := by rw [hx1.1]
  rw [List.getElem?_map, List.getElem?_map, List.getElem?_eq_getElem (by omega), List.getElem?_eq_getElem (by omega), e2] at e3
  simp only [Option.map_some, Option.some.injEq, DataW.lit.injEq, Lit.int.injEq, true_and] at e3
  have e4 : cs[i]? = some (.int .u8 k) := by
    have := congrArg (fun q : List Value => q[0]?) e1
    simp only [List.getElem?_take, List.getElem?_drop, Nat.add_zero, Nat.zero_lt_one, if_true] at this
    simpa using this
  rw [List.getElem?_eq_getElem h1] at e4
  rw [Option.some.inj e4, List.getElem_map, e3]
theorem laid_pick {P : Program} {w : World} : ∀ {laid : List (String × DataW Unit)} {ps : List MemPlace}, DataW.LaidVars P w laid ps → ∀ {k : Nat} {n : String} {d : DataW Unit}, laid[k]? = some (n, d) →
    ∃ g t cs fuel p, P.globalNamed n = some g ∧ (P.globals[g]?).map (·.type) = some t ∧ w.var? P n = some cs ∧ DataW.trod (fun _ => ()) P w 0 (fun _ => true) false fuel t cs.toList = some (d, p)
  | [], _, _, k, n, d, hk => by simp at hk
  | (n0, d0) :: r, ps, h, k, n, d, hk => by
    obtain ⟨g, t, cs, fuel, p, q, h1, h2, h3, h4, h5, _⟩ := h
    cases k with
    | zero => cases hk; exact ⟨g, t, cs, fuel, p, h1, h2, h3, h4⟩
    | succ k => exact laid_pick h5 (by simpa using hk)
/-- A table of bytes that is laid lies in its block. -/
theorem laid_at {P : Program} {w : World} {laid : List (String × DataW Unit)} (h : laidMetH P laid w) (hn : (laid.all fun x => x.2.handleName?.isNone) = true) {k : Nat} {nm : String} {l : List Int} (hk : laid[k]? = some (nm, .agg (l.map fun x => .lit (.int .u8 x))))
    {g n : Nat} {t e : TypeId} (hg : P.globalNamed nm = some g) (hty : (P.globals[g]?).map (·.type) = some t) (ht : P.underlying t = some (.array n e)) (he : P.underlying e = some (.int .u8)) (hc : P.cellsOf e = 1) (hct : P.cellsOf t = n) (ρ : PM) :
    CellsAt ρ w (l.map (AV.int .u8)) ⟨g, 0, 0, false⟩ := by
  rw [MakeChecks.laidMetH_plain _ _ _ hn] at h
  obtain ⟨ps, hv, _⟩ := h
  obtain ⟨g', t', cs, fuel, p, h1, h2, h3, h4⟩ := laid_pick hv hk
  obtain rfl := Option.some.inj (hg.symm.trans h1)
  obtain rfl := Option.some.inj (hty.symm.trans h2)
  have hcs := laid_u8 ht he hc hct h4
  refine ⟨fun j c hj => ?_⟩
  rw [List.getElem?_map] at hj
  obtain ⟨x, hx, rfl⟩ := Option.map_eq_some_iff.1 hj
  refine ⟨.int .u8 x, ?_, .int _ _⟩
  have := World.var?_cell hg h3 (0 + j)
  rw [this, Nat.zero_add, ← Array.getElem?_toList, hcs, List.getElem?_map, hx]; rfl
end Go.Am


