/-
  What functions of chapter 07 compute, 21: the reference turns a ring.
-/
import Derived.Test.YtcckhkcchpfdoaaShareC20
set_option linter.unusedVariables false
set_option linter.unusedSimpArgs false
set_option maxRecDepth 10000
namespace Go.Am.Share
/-- A walk that began as a list of one number. -/
def GW (l : List Int) : LV := if l.length = 1 then .lst false true 1 1 (l.map (LV.int .i64)) else .sl 0 0 l.length l.length 1 1 l.length
def GWm (l : List Int) : LMem := if l.length = 1 then [] else [⟨l.map (LV.int .i64), true⟩]
theorem views_gw (l : List Int) (x : Int) : ∃ nl ex ids, views (GWm l) [GW l, .int .i64 x] = some ([IL nl ex 1 l, .int .i64 x], ids) := by
  by_cases h : l.length = 1
  · refine ⟨false, true, [], ?_⟩
    simp only [GW, GWm, if_pos h]
    rw [views_pures _ _ (by simp [LV.pures, LV.pure, pures_int])]
    simp [h]
  · refine ⟨false, (Nat.beq 1 0 && Nat.beq l.length l.length), [0], ?_⟩
    simp only [GW, GWm, if_neg h]
    have := views_two 32 [⟨l.map (LV.int .i64), true⟩] _ (.int .i64 x) _ _ (fun k => view_sl k [⟨l.map (LV.int .i64), true⟩] 0 0 l.length l.length 1 l true rfl rfl (by omega) l.length (by omega)) rfl (by simp [LV.pures, LV.pure])
    rw [List.drop_zero, List.take_length] at this
    exact this
theorem has_w (l : List Int) (hl : l.length < 1000000) (x : Int) : clF LP n_ref07_has [GW l, .int .i64 x] (GWm l) = some (.P, .bool (decide (x ∈ l)), GWm l) := by
  obtain ⟨nl, ex, ids, h⟩ := views_gw l x
  exact call_view lp_ref07_has rfl h (by simp [LV.pures, LV.pure]) (has_c _ _ _ l x hl []) rfl
theorem append_w (l : List Int) (x : Int) (h0 : 0 < l.length) (h : l.length < 1000000) : appendL (GWm l) 1 8 (GW l) (.lst false true 1 1 [.int .i64 x]) = some (GW (l ++ [x]), GWm (l ++ [x])) := by
  by_cases h1 : l.length = 1
  · have h2 : ¬ (l ++ [x]).length = 1 := by rw [List.length_append]; simp only [List.length_cons, List.length_nil]; omega
    simp only [GW, GWm, if_pos h1, if_neg h2]
    simp [appendL, contents, h1, nbeq, nble, roomMost, newSl, LV.scalar, scalars_int]
  · have h2 : ¬ (l ++ [x]).length = 1 := by rw [List.length_append]; simp only [List.length_cons, List.length_nil]; omega
    have hne : l ≠ [] := by intro c; subst c; simp at h0
    have := append_grow0 l x true h
    have e1 : GV 0 l = GW l := by simp [GV, GW, hne, h1]
    have e2 : GM l = GWm l := by simp [GM, GWm, hne, h1]
    have e3 : GV 0 (l ++ [x]) = GW (l ++ [x]) := by simp only [GW, if_neg h2]; simp [GV]
    have e4 : GM (l ++ [x]) = GWm (l ++ [x]) := by simp only [GWm, if_neg h2]; simp [GM]
    rw [e1, e2, e3, e4] at this
    exact this
theorem envious_i (nl ex nl' ex' : Bool) (sz sz' : Nat) {rs : List Row} {o : List Int} (D : DOk rs o) {j : Int} (hj : 0 ≤ j) (m : LMem) : clF LP n_ref07_envious [VL nl ex sz rs, IL nl' ex' sz' o, .int .i64 j] m = some (.P, .int .i64 (enI (vals rs) o j.toNat), m) := by
  obtain ⟨n, rfl⟩ := Int.eq_ofNat_of_zero_le hj
  exact envious_c nl ex nl' ex' sz sz' D n m
theorem rwalk_loop (nl ex nl' ex' : Bool) (sz sz' : Nat) {rs : List Row} {o : List Int} (D : DOk rs o) (hc : calmI (vals rs) o = -1) (n : Nat) : ∀ (l : List Int) (w : Int), l ≠ [] → WOk (fun x => enI (vals rs) o x.toNat) rs.length l w → rs.length + 1 ≤ l.length + n →
    exF LP ref07_turned.L0 [(0, VL nl ex sz rs), (1, IL nl' ex' sz' o), (5, GW l), (6, .int .i64 w)] (GWm l) =
      some (.exit 0, [(1, IL nl' ex' sz' o), (5, GW (wlk (fun x => enI (vals rs) o x.toNat) n l w).1), (6, .int .i64 (wlk (fun x => enI (vals rs) o x.toNat) n l w).2)], GWm (wlk (fun x => enI (vals rs) o x.toNat) n l w).1) := by
  have h4 := D.le4
  have hrng := en_rng hc
  rw [vals_length] at hrng
  induction n with
  | zero =>
    intro l w hne H hn
    have := nodup_le rs.length l H.nd H.rng
    omega
  | succ n ih =>
    intro l w hne H hn
    have hlen := nodup_le rs.length l H.nd H.rng
    have hcm := has_w l (by omega) w
    rw [ref07_turned.L0_eq, wlk]
    by_cases hw : w ∈ l
    · simp only [ref07_turned.B0, beqT, beqF, exF_seq, exF_region, exF_block, exF_cond, exF_ret, exF_exit, exF_skip, runL, wantL, stepL, evL, LEnv.at, putL, loadFine, loadL, cellsAt, Trk.putNew, Trk.up, Trk.touch, Trk.gives, Trk.calm, Trk.hit, opdsOf, Trk.fresh, LEnv.keep, LEnv.ofFrom, List.map_cons, List.map_nil, nbeq, nble, nblt, ofAV, ofAVs, lenL, bin_add, bin_sub, bin_mul, bin_eql, bin_neq, bin_lss, bin_leq, bin_gtr, bin_geq, natL_nat, natL_zero, natL_one, natL_two, Nat.zero_mul, List.any_cons, List.any_nil, Bool.or_false, Bool.false_or, Bool.true_or, Bool.or_true, Bool.and_true, Bool.true_and, Bool.and_false, Bool.false_and, Bool.not_true, Bool.not_false, Nat.reduceBEq, Nat.reduceEqDiff, decide_true, decide_false, cond_true, cond_false, List.filter_nil, List.filter_cons, Nat.reduceAdd, Nat.reduceLeDiff, reduceCtorEq, List.length_nil, List.length_cons, Nat.mul_one, if_true, if_false, Bool.false_eq_true, eq_self, and_true, true_and, retL, resultsL, resAllL, resOfL, List.append_nil, List.nil_append, List.cons_append, true_or, or_true, false_or, or_false, false_and, and_false, not_true_eq_false, not_false_eq_true, ne_eq, unL, trim_nil, views_pures, LV.pures, LV.pure, freeze, Nat.reduceDiv, Int.reduceEq, Int.reduceLT, Int.reduceLE, Int.natCast_zero, LV.cells, allocL, List.getElem?_cons_zero, List.getElem?_cons_succ, storeL, spliceL, List.take_zero, List.take_succ_cons, List.drop_zero, List.drop_succ_cons, List.drop_nil, List.take_nil, Nat.le_refl, Nat.reduceMul, List.set_cons_zero, List.set_cons_succ, LV.scalar, List.all_cons, List.all_nil, Nat.lt_add_one, Nat.zero_lt_one, Nat.lt_irrefl, fillL, foldIntL, kind_beq, pures_int, solids_int, plains_int, unders_int, scalars_int, hcm, hw]
    · have he := fun m => envious_i nl ex nl' ex' sz sz' D H.w0.1 m
      have ih := ih (l ++ [w]) _ (by simp) (H.step hrng hw) (by simp; omega)
      have ha := append_w l w (List.length_pos_iff.2 hne) (by omega)
      simp only [ref07_turned.B0, beqT, beqF, exF_seq, exF_region, exF_block, exF_cond, exF_ret, exF_exit, exF_skip, runL, wantL, stepL, evL, LEnv.at, putL, loadFine, loadL, cellsAt, Trk.putNew, Trk.up, Trk.touch, Trk.gives, Trk.calm, Trk.hit, opdsOf, Trk.fresh, LEnv.keep, LEnv.ofFrom, List.map_cons, List.map_nil, nbeq, nble, nblt, ofAV, ofAVs, lenL, bin_add, bin_sub, bin_mul, bin_eql, bin_neq, bin_lss, bin_leq, bin_gtr, bin_geq, natL_nat, natL_zero, natL_one, natL_two, Nat.zero_mul, List.any_cons, List.any_nil, Bool.or_false, Bool.false_or, Bool.true_or, Bool.or_true, Bool.and_true, Bool.true_and, Bool.and_false, Bool.false_and, Bool.not_true, Bool.not_false, Nat.reduceBEq, Nat.reduceEqDiff, decide_true, decide_false, cond_true, cond_false, List.filter_nil, List.filter_cons, Nat.reduceAdd, Nat.reduceLeDiff, reduceCtorEq, List.length_nil, List.length_cons, Nat.mul_one, if_true, if_false, Bool.false_eq_true, eq_self, and_true, true_and, retL, resultsL, resAllL, resOfL, List.append_nil, List.nil_append, List.cons_append, true_or, or_true, false_or, or_false, false_and, and_false, not_true_eq_false, not_false_eq_true, ne_eq, unL, trim_nil, views_pures, LV.pures, LV.pure, freeze, Nat.reduceDiv, Int.reduceEq, Int.reduceLT, Int.reduceLE, Int.natCast_zero, LV.cells, allocL, List.getElem?_cons_zero, List.getElem?_cons_succ, storeL, spliceL, List.take_zero, List.take_succ_cons, List.drop_zero, List.drop_succ_cons, List.drop_nil, List.take_nil, Nat.le_refl, Nat.reduceMul, List.set_cons_zero, List.set_cons_succ, LV.scalar, List.all_cons, List.all_nil, Nat.lt_add_one, Nat.zero_lt_one, Nat.lt_irrefl, fillL, foldIntL, kind_beq, pures_int, solids_int, plains_int, unders_int, scalars_int, hcm, hw, ha, he, ih]
theorem rdrop_loop (nl' ex' : Bool) (sz' : Nat) (o l : List Int) (w : Int) (hll : l.length ≤ 100) (n : Nat) : ∀ (p : Nat), p + n = l.length → w ∈ l.drop p →
    ∃ q, q < l.length ∧ l.drop q = ringOf w (l.drop p) ∧ exF LP ref07_turned.L1 [(1, IL nl' ex' sz' o), (5, .sl 0 p n n 1 1 l.length), (6, .int .i64 w)] [⟨l.map (LV.int .i64), true⟩] =
      some (.exit 2, [(1, IL nl' ex' sz' o), (5, .sl 0 q (l.length - q) (l.length - q) 1 1 l.length)], [⟨l.map (LV.int .i64), true⟩]) := by
  induction n with
  | zero =>
    intro p hp hw
    rw [List.drop_eq_nil_of_le (by omega)] at hw; cases hw
  | succ n ih =>
    intro p hp hw
    have h2 : p < l.length := by omega
    have h3 : l.length - p = n + 1 := by omega
    rw [List.drop_eq_getElem_cons h2, ringOf]
    by_cases he : l[p] = w
    · refine ⟨p, h2, ?_, ?_⟩
      · rw [if_pos he, List.drop_eq_getElem_cons h2]
      · rw [ref07_turned.L1_eq]
        simp only [ref07_turned.B1, beqT, beqF, exF_seq, exF_region, exF_block, exF_cond, exF_ret, exF_exit, exF_skip, runL, wantL, stepL, evL, LEnv.at, putL, loadFine, loadL, cellsAt, Trk.putNew, Trk.up, Trk.touch, Trk.gives, Trk.calm, Trk.hit, opdsOf, Trk.fresh, LEnv.keep, LEnv.ofFrom, List.map_cons, List.map_nil, nbeq, nble, nblt, ofAV, ofAVs, lenL, bin_add, bin_sub, bin_mul, bin_eql, bin_neq, bin_lss, bin_leq, bin_gtr, bin_geq, natL_nat, natL_zero, natL_one, natL_two, Nat.zero_mul, List.any_cons, List.any_nil, Bool.or_false, Bool.false_or, Bool.true_or, Bool.or_true, Bool.and_true, Bool.true_and, Bool.and_false, Bool.false_and, Bool.not_true, Bool.not_false, Nat.reduceBEq, Nat.reduceEqDiff, decide_true, decide_false, cond_true, cond_false, List.filter_nil, List.filter_cons, Nat.reduceAdd, Nat.reduceLeDiff, reduceCtorEq, List.length_nil, List.length_cons, Nat.mul_one, if_true, if_false, Bool.false_eq_true, eq_self, and_true, true_and, retL, resultsL, resAllL, resOfL, List.append_nil, List.nil_append, List.cons_append, true_or, or_true, false_or, or_false, false_and, and_false, not_true_eq_false, not_false_eq_true, ne_eq, unL, trim_nil, views_pures, LV.pures, LV.pure, freeze, Nat.reduceDiv, Int.reduceEq, Int.reduceLT, Int.reduceLE, Int.natCast_zero, LV.cells, allocL, List.getElem?_cons_zero, List.getElem?_cons_succ, storeL, spliceL, List.take_zero, List.take_succ_cons, List.drop_zero, List.drop_succ_cons, List.drop_nil, List.take_nil, Nat.le_refl, Nat.reduceMul, List.set_cons_zero, List.set_cons_succ, LV.scalar, List.all_cons, List.all_nil, Nat.lt_add_one, Nat.zero_lt_one, Nat.lt_irrefl, fillL, List.length_append, foldIntL, kind_beq, pures_int, solids_int, plains_int, unders_int, scalars_int, Nat.zero_lt_succ, Nat.add_zero, h2, int_at _ _ _ h2, List.length_map, he, h3]
    · rw [if_neg he]
      obtain ⟨q, q1, q2, q3⟩ := ih (p + 1) (by omega) (by
        rw [List.drop_eq_getElem_cons h2] at hw
        rcases List.mem_cons.1 hw with c | c
        · exact absurd c.symm he
        · exact c)
      refine ⟨q, q1, q2, ?_⟩
      rw [ref07_turned.L1_eq]
      have hsl : sliceL 1 (.sl 0 p (n + 1) (n + 1) 1 1 l.length) (some (.int .i64 1)) none none = some (.sl 0 (p + 1) n n 1 1 l.length) := by
        simp [sliceL, optNatL, natL_one, nble, nbeq]
      simp only [ref07_turned.B1, beqT, beqF, exF_seq, exF_region, exF_block, exF_cond, exF_ret, exF_exit, exF_skip, runL, wantL, stepL, evL, LEnv.at, putL, loadFine, loadL, cellsAt, Trk.putNew, Trk.up, Trk.touch, Trk.gives, Trk.calm, Trk.hit, opdsOf, Trk.fresh, LEnv.keep, LEnv.ofFrom, List.map_cons, List.map_nil, nbeq, nble, nblt, ofAV, ofAVs, lenL, bin_add, bin_sub, bin_mul, bin_eql, bin_neq, bin_lss, bin_leq, bin_gtr, bin_geq, natL_nat, natL_zero, natL_one, natL_two, Nat.zero_mul, List.any_cons, List.any_nil, Bool.or_false, Bool.false_or, Bool.true_or, Bool.or_true, Bool.and_true, Bool.true_and, Bool.and_false, Bool.false_and, Bool.not_true, Bool.not_false, Nat.reduceBEq, Nat.reduceEqDiff, decide_true, decide_false, cond_true, cond_false, List.filter_nil, List.filter_cons, Nat.reduceAdd, Nat.reduceLeDiff, reduceCtorEq, List.length_nil, List.length_cons, Nat.mul_one, if_true, if_false, Bool.false_eq_true, eq_self, and_true, true_and, retL, resultsL, resAllL, resOfL, List.append_nil, List.nil_append, List.cons_append, true_or, or_true, false_or, or_false, false_and, and_false, not_true_eq_false, not_false_eq_true, ne_eq, unL, trim_nil, views_pures, LV.pures, LV.pure, freeze, Nat.reduceDiv, Int.reduceEq, Int.reduceLT, Int.reduceLE, Int.natCast_zero, LV.cells, allocL, List.getElem?_cons_zero, List.getElem?_cons_succ, storeL, spliceL, List.take_zero, List.take_succ_cons, List.drop_zero, List.drop_succ_cons, List.drop_nil, List.take_nil, Nat.le_refl, Nat.reduceMul, List.set_cons_zero, List.set_cons_succ, LV.scalar, List.all_cons, List.all_nil, Nat.lt_add_one, Nat.zero_lt_one, Nat.lt_irrefl, fillL, List.length_append, foldIntL, kind_beq, pures_int, solids_int, plains_int, unders_int, scalars_int, Nat.zero_lt_succ, Nat.add_zero, h2, int_at _ _ _ h2, List.length_map, he, Option.map_some, Option.map_none, hsl, q3]
/-! ### Shares are handed on -/
def rin (g : List Int) (x : Int) (k : Nat) : Nat → Nat → List Int → List Int
  | 0, _, c => c
  | r + 1, i, c => rin g x k r (i + 1) (if x = g.getD i 0 then c.set k (g.getD ((i + 1) % g.length) 0) else c)
theorem rin_no (g : List Int) (x : Int) (k : Nat) : ∀ (r i : Nat) (c : List Int), (∀ j, i ≤ j → j < i + r → x ≠ g.getD j 0) → rin g x k r i c = c
  | 0, _, c, _ => rfl
  | r + 1, i, c, h => by
    rw [rin, if_neg (h i (by omega) (by omega))]
    exact rin_no g x k r (i + 1) c (fun j a b => h j (by omega) (by omega))
theorem rin_yes (g : List Int) (hn : g.Nodup) (x : Int) (k p : Nat) (hp : p < g.length) (hx : g.getD p 0 = x) : ∀ (r i : Nat) (c : List Int), i + r = g.length → i ≤ p → rin g x k r i c = c.set k (g.getD ((p + 1) % g.length) 0)
  | 0, i, c, h, h2 => by omega
  | r + 1, i, c, h, h2 => by
    rw [rin]
    by_cases e : i = p
    · subst e
      rw [if_pos hx.symm]
      exact rin_no g x k r (i + 1) _ (fun j a b c => by
        have := getD_inj hn hp (show j < g.length by omega) (by rw [hx, c])
        omega)
    · rw [if_neg (fun c => e (getD_inj hn (show i < g.length by omega) hp (by rw [hx, c])))]
      exact rin_yes g hn x k p hp hx r (i + 1) c (by omega) (by omega)
theorem rin_eq (g : List Int) (hn : g.Nodup) (x : Int) (k : Nat) (c : List Int) (hx : c.getD k 0 = x) (hk : k < c.length) : rin g x k g.length 0 c = c.set k (nxI g x) := by
  unfold nxI
  by_cases h : x ∈ g
  · rw [if_pos h]
    exact rin_yes g hn x k (g.idxOf x) (idx_lt h) (getD_idx h) g.length 0 c (by omega) (by omega)
  · rw [if_neg h, rin_no]
    · have : c[k] = x := by rw [← hx]; simp [List.getD_eq_getElem?_getD, hk]
      rw [← this, List.set_getElem_self]
    · intro j _ hj e
      exact h (e ▸ getD_mem (by omega))
abbrev QM (l c : List Int) : LMem := [⟨l.map (LV.int .i64), true⟩, ⟨c.map (LV.int .i64), true⟩]
theorem rgive_inner (nl' ex' : Bool) (sz' : Nat) (o l : List Int) (hll : l.length ≤ 100) (p n : Nat) (hp : p + n = l.length) (L k : Nat) (hk : k < o.length) (hko : o.length = L) (hL : L ≤ 6) (r : Nat) : ∀ (i : Nat) (c : List Int), i + r = n → c.length = L →
    exF LP ref07_turned.L2 [(1, IL nl' ex' sz' o), (5, .sl 0 p n n 1 1 l.length), (7, .sl 1 0 L L 1 1 L), (8, .int .i64 (k : Int)), (9, .int .i64 (i : Int))] (QM l c) =
      some (.exit 6, [(1, IL nl' ex' sz' o), (5, .sl 0 p n n 1 1 l.length), (7, .sl 1 0 L L 1 1 L), (8, .int .i64 (k : Int))], QM l (rin (l.drop p) o[k] k r i c)) := by
  have hkL : k < L := by omega
  induction r with
  | zero =>
    intro i c hi hc
    rw [ref07_turned.L2_eq]
    simp only [ref07_turned.B2, beqT, beqF, exF_seq, exF_region, exF_block, exF_cond, exF_ret, exF_exit, exF_skip, runL, wantL, stepL, evL, LEnv.at, putL, loadFine, loadL, cellsAt, Trk.putNew, Trk.up, Trk.touch, Trk.gives, Trk.calm, Trk.hit, opdsOf, Trk.fresh, LEnv.keep, LEnv.ofFrom, List.map_cons, List.map_nil, nbeq, nble, nblt, ofAV, ofAVs, lenL, bin_add, bin_sub, bin_mul, bin_eql, bin_neq, bin_lss, bin_leq, bin_gtr, bin_geq, natL_nat, natL_zero, natL_one, natL_two, Nat.zero_mul, List.any_cons, List.any_nil, Bool.or_false, Bool.false_or, Bool.true_or, Bool.or_true, Bool.and_true, Bool.true_and, Bool.and_false, Bool.false_and, Bool.not_true, Bool.not_false, Nat.reduceBEq, Nat.reduceEqDiff, decide_true, decide_false, cond_true, cond_false, List.filter_nil, List.filter_cons, Nat.reduceAdd, Nat.reduceLeDiff, reduceCtorEq, List.length_nil, List.length_cons, Nat.mul_one, if_true, if_false, Bool.false_eq_true, eq_self, and_true, true_and, retL, resultsL, resAllL, resOfL, List.append_nil, List.nil_append, List.cons_append, true_or, or_true, false_or, or_false, false_and, and_false, not_true_eq_false, not_false_eq_true, ne_eq, unL, trim_nil, views_pures, LV.pures, LV.pure, freeze, Nat.reduceDiv, Int.reduceEq, Int.reduceLT, Int.reduceLE, Int.natCast_zero, LV.cells, allocL, List.getElem?_cons_zero, List.getElem?_cons_succ, storeL, spliceL, List.take_zero, List.take_succ_cons, List.drop_zero, List.drop_succ_cons, List.drop_nil, List.take_nil, Nat.le_refl, Nat.reduceMul, List.set_cons_zero, List.set_cons_succ, LV.scalar, List.all_cons, List.all_nil, Nat.lt_add_one, Nat.zero_lt_one, Nat.lt_irrefl, fillL, List.length_append, foldIntL, kind_beq, pures_int, solids_int, plains_int, unders_int, scalars_int, show ¬ ((i : Int) < (n : Int)) by omega, rin]
  | succ r ih =>
    intro i c hi hc
    have h2 : i < n := by omega
    have h3 : p + i < l.length := by omega
    have hkc : k < c.length := by omega
    have hv : (l.drop p).getD i 0 = l[p + i] := by simp [List.getD_eq_getElem?_getD, h3]
    have hgl : (l.drop p).length = n := by simp; omega
    rw [ref07_turned.L2_eq, rin, hv, hgl]
    by_cases he : o[k] = l[p + i]
    · have hq : (i + 1) % n < n := Nat.mod_lt _ (by omega)
      have hq2 : p + (i + 1) % n < l.length := by omega
      have hv2 : (l.drop p).getD ((i + 1) % n) 0 = l[p + (i + 1) % n] := by simp [List.getD_eq_getElem?_getD, hq2]
      have ih := ih (i + 1) (c.set k l[p + (i + 1) % n]) (by omega) (by simpa using hc)
      have hne : ((n : Nat) : Int) ≠ 0 := by omega
      rw [hv2, if_pos he]
      simp only [ref07_turned.B2, beqT, beqF, exF_seq, exF_region, exF_block, exF_cond, exF_ret, exF_exit, exF_skip, runL, wantL, stepL, evL, LEnv.at, putL, loadFine, loadL, cellsAt, Trk.putNew, Trk.up, Trk.touch, Trk.gives, Trk.calm, Trk.hit, opdsOf, Trk.fresh, LEnv.keep, LEnv.ofFrom, List.map_cons, List.map_nil, nbeq, nble, nblt, ofAV, ofAVs, lenL, bin_add, bin_sub, bin_mul, bin_eql, bin_neq, bin_lss, bin_leq, bin_gtr, bin_geq, natL_nat, natL_zero, natL_one, natL_two, Nat.zero_mul, List.any_cons, List.any_nil, Bool.or_false, Bool.false_or, Bool.true_or, Bool.or_true, Bool.and_true, Bool.true_and, Bool.and_false, Bool.false_and, Bool.not_true, Bool.not_false, Nat.reduceBEq, Nat.reduceEqDiff, decide_true, decide_false, cond_true, cond_false, List.filter_nil, List.filter_cons, Nat.reduceAdd, Nat.reduceLeDiff, reduceCtorEq, List.length_nil, List.length_cons, Nat.mul_one, if_true, if_false, Bool.false_eq_true, eq_self, and_true, true_and, retL, resultsL, resAllL, resOfL, List.append_nil, List.nil_append, List.cons_append, true_or, or_true, false_or, or_false, false_and, and_false, not_true_eq_false, not_false_eq_true, ne_eq, unL, trim_nil, views_pures, LV.pures, LV.pure, freeze, Nat.reduceDiv, Int.reduceEq, Int.reduceLT, Int.reduceLE, Int.natCast_zero, LV.cells, allocL, List.getElem?_cons_zero, List.getElem?_cons_succ, storeL, spliceL, List.take_zero, List.take_succ_cons, List.drop_zero, List.drop_succ_cons, List.drop_nil, List.take_nil, Nat.le_refl, Nat.reduceMul, List.set_cons_zero, List.set_cons_succ, LV.scalar, List.all_cons, List.all_nil, Nat.lt_add_one, Nat.zero_lt_one, Nat.lt_irrefl, fillL, List.length_append, foldIntL, kind_beq, pures_int, solids_int, plains_int, unders_int, scalars_int, show ((i : Int) < (n : Int)) by omega, hk, hkL, h2, h3, hc, int_at _ _ _ hk, int_at _ _ _ h3, he, Nat.zero_add, List.length_map, wrap_succ (show i + 1 < 9223372036854775808 by omega), bin_rem _ _ _ hne, tmod_nat, hq, hq2, int_at _ _ _ hq2, set_int _ _ _ _ hkc, show k + 1 ≤ L by omega, ih]
    · rw [if_neg he]
      have ih := ih (i + 1) c (by omega) hc
      simp only [ref07_turned.B2, beqT, beqF, exF_seq, exF_region, exF_block, exF_cond, exF_ret, exF_exit, exF_skip, runL, wantL, stepL, evL, LEnv.at, putL, loadFine, loadL, cellsAt, Trk.putNew, Trk.up, Trk.touch, Trk.gives, Trk.calm, Trk.hit, opdsOf, Trk.fresh, LEnv.keep, LEnv.ofFrom, List.map_cons, List.map_nil, nbeq, nble, nblt, ofAV, ofAVs, lenL, bin_add, bin_sub, bin_mul, bin_eql, bin_neq, bin_lss, bin_leq, bin_gtr, bin_geq, natL_nat, natL_zero, natL_one, natL_two, Nat.zero_mul, List.any_cons, List.any_nil, Bool.or_false, Bool.false_or, Bool.true_or, Bool.or_true, Bool.and_true, Bool.true_and, Bool.and_false, Bool.false_and, Bool.not_true, Bool.not_false, Nat.reduceBEq, Nat.reduceEqDiff, decide_true, decide_false, cond_true, cond_false, List.filter_nil, List.filter_cons, Nat.reduceAdd, Nat.reduceLeDiff, reduceCtorEq, List.length_nil, List.length_cons, Nat.mul_one, if_true, if_false, Bool.false_eq_true, eq_self, and_true, true_and, retL, resultsL, resAllL, resOfL, List.append_nil, List.nil_append, List.cons_append, true_or, or_true, false_or, or_false, false_and, and_false, not_true_eq_false, not_false_eq_true, ne_eq, unL, trim_nil, views_pures, LV.pures, LV.pure, freeze, Nat.reduceDiv, Int.reduceEq, Int.reduceLT, Int.reduceLE, Int.natCast_zero, LV.cells, allocL, List.getElem?_cons_zero, List.getElem?_cons_succ, storeL, spliceL, List.take_zero, List.take_succ_cons, List.drop_zero, List.drop_succ_cons, List.drop_nil, List.take_nil, Nat.le_refl, Nat.reduceMul, List.set_cons_zero, List.set_cons_succ, LV.scalar, List.all_cons, List.all_nil, Nat.lt_add_one, Nat.zero_lt_one, Nat.lt_irrefl, fillL, List.length_append, foldIntL, kind_beq, pures_int, solids_int, plains_int, unders_int, scalars_int, show ((i : Int) < (n : Int)) by omega, hk, hkL, h2, h3, hc, int_at _ _ _ hk, int_at _ _ _ h3, he, Nat.zero_add, List.length_map, wrap_succ (show i + 1 < 9223372036854775808 by omega), ih]
theorem rgive_outer (nl' ex' : Bool) (sz' : Nat) (o l : List Int) (hll : l.length ≤ 100) (p n : Nat) (hp : p + n = l.length) (hnd : (l.drop p).Nodup) (L : Nat) (hko : o.length = L) (hL : L ≤ 6) (r : Nat) : ∀ (k : Nat) (c : List Int), k + r = L → c.length = L → c.drop k = o.drop k →
    exF LP ref07_turned.L3 [(1, IL nl' ex' sz' o), (5, .sl 0 p n n 1 1 l.length), (7, .sl 1 0 L L 1 1 L), (8, .int .i64 (k : Int))] (QM l c) =
      some (.exit 4, [(7, .sl 1 0 L L 1 1 L)], QM l (mapFrom (nxI (l.drop p)) r k c)) := by
  have hgl : (l.drop p).length = n := by simp; omega
  induction r with
  | zero =>
    intro k c hk hc hd
    rw [ref07_turned.L3_eq]
    simp only [ref07_turned.B3, beqT, beqF, exF_seq, exF_region, exF_block, exF_cond, exF_ret, exF_exit, exF_skip, runL, wantL, stepL, evL, LEnv.at, putL, loadFine, loadL, cellsAt, Trk.putNew, Trk.up, Trk.touch, Trk.gives, Trk.calm, Trk.hit, opdsOf, Trk.fresh, LEnv.keep, LEnv.ofFrom, List.map_cons, List.map_nil, nbeq, nble, nblt, ofAV, ofAVs, lenL, bin_add, bin_sub, bin_mul, bin_eql, bin_neq, bin_lss, bin_leq, bin_gtr, bin_geq, natL_nat, natL_zero, natL_one, natL_two, Nat.zero_mul, List.any_cons, List.any_nil, Bool.or_false, Bool.false_or, Bool.true_or, Bool.or_true, Bool.and_true, Bool.true_and, Bool.and_false, Bool.false_and, Bool.not_true, Bool.not_false, Nat.reduceBEq, Nat.reduceEqDiff, decide_true, decide_false, cond_true, cond_false, List.filter_nil, List.filter_cons, Nat.reduceAdd, Nat.reduceLeDiff, reduceCtorEq, List.length_nil, List.length_cons, Nat.mul_one, if_true, if_false, Bool.false_eq_true, eq_self, and_true, true_and, retL, resultsL, resAllL, resOfL, List.append_nil, List.nil_append, List.cons_append, true_or, or_true, false_or, or_false, false_and, and_false, not_true_eq_false, not_false_eq_true, ne_eq, unL, trim_nil, views_pures, LV.pures, LV.pure, freeze, Nat.reduceDiv, Int.reduceEq, Int.reduceLT, Int.reduceLE, Int.natCast_zero, LV.cells, allocL, List.getElem?_cons_zero, List.getElem?_cons_succ, storeL, spliceL, List.take_zero, List.take_succ_cons, List.drop_zero, List.drop_succ_cons, List.drop_nil, List.take_nil, Nat.le_refl, Nat.reduceMul, List.set_cons_zero, List.set_cons_succ, LV.scalar, List.all_cons, List.all_nil, Nat.lt_add_one, Nat.zero_lt_one, Nat.lt_irrefl, fillL, List.length_append, foldIntL, kind_beq, pures_int, solids_int, plains_int, unders_int, scalars_int, show ¬ ((k : Int) < (L : Int)) by omega, mapFrom]
  | succ r ih =>
    intro k c hk hc hd
    have hkc : k < c.length := by omega
    have hkO : k < o.length := by omega
    have hin := rgive_inner nl' ex' sz' o l hll p n hp L k hkO hko hL n 0 c (by omega) hc
    have hg : c.getD k 0 = o[k] := by
      have h1 : c[k]? = o[k]? := by
        have := congrArg (fun l => l[0]?) hd
        simpa using this
      rw [List.getD_eq_getElem?_getD, h1]; simp [hkO]
    have hre := rin_eq (l.drop p) hnd o[k] k c hg hkc
    rw [hgl] at hre
    rw [hre] at hin
    have ih := ih (k + 1) (c.set k (nxI (l.drop p) o[k])) (by omega) (by simpa using hc) (by
      rw [List.drop_set, if_pos (by omega)]
      have := congrArg (List.drop 1) hd
      simpa [List.drop_drop] using this)
    rw [ref07_turned.L3_eq, mapFrom, hg]
    simp only [Int.natCast_zero] at hin
    simp only [ref07_turned.B3, beqT, beqF, exF_seq, exF_region, exF_block, exF_cond, exF_ret, exF_exit, exF_skip, runL, wantL, stepL, evL, LEnv.at, putL, loadFine, loadL, cellsAt, Trk.putNew, Trk.up, Trk.touch, Trk.gives, Trk.calm, Trk.hit, opdsOf, Trk.fresh, LEnv.keep, LEnv.ofFrom, List.map_cons, List.map_nil, nbeq, nble, nblt, ofAV, ofAVs, lenL, bin_add, bin_sub, bin_mul, bin_eql, bin_neq, bin_lss, bin_leq, bin_gtr, bin_geq, natL_nat, natL_zero, natL_one, natL_two, Nat.zero_mul, List.any_cons, List.any_nil, Bool.or_false, Bool.false_or, Bool.true_or, Bool.or_true, Bool.and_true, Bool.true_and, Bool.and_false, Bool.false_and, Bool.not_true, Bool.not_false, Nat.reduceBEq, Nat.reduceEqDiff, decide_true, decide_false, cond_true, cond_false, List.filter_nil, List.filter_cons, Nat.reduceAdd, Nat.reduceLeDiff, reduceCtorEq, List.length_nil, List.length_cons, Nat.mul_one, if_true, if_false, Bool.false_eq_true, eq_self, and_true, true_and, retL, resultsL, resAllL, resOfL, List.append_nil, List.nil_append, List.cons_append, true_or, or_true, false_or, or_false, false_and, and_false, not_true_eq_false, not_false_eq_true, ne_eq, unL, trim_nil, views_pures, LV.pures, LV.pure, freeze, Nat.reduceDiv, Int.reduceEq, Int.reduceLT, Int.reduceLE, Int.natCast_zero, LV.cells, allocL, List.getElem?_cons_zero, List.getElem?_cons_succ, storeL, spliceL, List.take_zero, List.take_succ_cons, List.drop_zero, List.drop_succ_cons, List.drop_nil, List.take_nil, Nat.le_refl, Nat.reduceMul, List.set_cons_zero, List.set_cons_succ, LV.scalar, List.all_cons, List.all_nil, Nat.lt_add_one, Nat.zero_lt_one, Nat.lt_irrefl, fillL, List.length_append, foldIntL, kind_beq, pures_int, solids_int, plains_int, unders_int, scalars_int, show ((k : Int) < (L : Int)) by omega, hin, wrap_succ (show k + 1 < 9223372036854775808 by omega), ih]
theorem enI_ne (V : List (List Int)) (o : List Int) (j : Nat) : enI V o j ≠ (j : Int) := by
  intro c
  rcases fstI_cases (fun i => decide (0 < eW V o i j)) V.length 0 with ⟨a, _⟩ | ⟨i, a, _, _, d⟩
  · unfold enI at c; omega
  · unfold enI at c
    obtain rfl : i = j := by omega
    simp [eW] at d
theorem calm_ne {V : List (List Int)} {o : List Int} (hV : 0 < V.length) (h : calmI V o = -1) : o ≠ [] := by
  rintro rfl
  have := (enI_ok h (j := 0) (by omega) (by omega)).2.2
  have hw : ∀ (i : Int) (r : List Int), ws i r [] 0 = 0 := fun i r => by cases r <;> rfl
  simp [eW, hw] at this
theorem view_slO (m : LMem) (i L g : Nat) (V : LV) (hV : V.pure = true) (o : List Int) (b : Bool) (h : m[i]? = some ⟨o.map (LV.int .i64), b⟩) (hL : o.length = L) : views m [V, .sl i 0 L L g 1 L] = some ([V, IL false (Nat.beq g 0) 1 o], [i]) := by
  have h1 := fun k => view_sl k m i 0 L L g o b h hL (by omega) L (by omega)
  have hn : LV.pures [V, .sl i 0 L L g 1 L] = false := by simp [LV.pures, LV.pure]
  show viewL 40 m _ = _
  rw [viewL.eq_def]
  simp only [hn, cond_false]
  rw [viewC.eq_def]
  simp only [view_pure _ _ V hV]
  rw [viewC.eq_def]
  simp only [h1]
  rw [viewC.eq_def]
  subst hL
  simp [nbeq]
theorem rcalm_m (nl ex : Bool) (sz : Nat) {rs : List Row} {o : List Int} (D : DOk rs o) {m : LMem} {i L g : Nat} {b : Bool} (hb : m[i]? = some ⟨o.map (LV.int .i64), b⟩) (hL : o.length = L) : clF LP n_ref07_calm [VL nl ex sz rs, .sl i 0 L L g 1 L] m = some (.P, .int .i64 (calmI (vals rs) o), m) :=
  call_view lp_ref07_calm rfl (view_slO m i L g _ rfl o b hb hL) (by simp [LV.pures, LV.pure]) (rcalm_c nl ex false _ sz 1 D []) rfl
theorem turned_run (nl ex nl' ex' : Bool) (sz : Nat) {rs : List Row} {o : List Int} (D : DOk rs o) (hc : calmI (vals rs) o = -1) :
    ∃ l : List Int, retL ref07_turned.results (exF LP ref07_turned.B (LEnv.ofFrom 0 [VL nl ex sz rs, IL nl' ex' 1 o]) []) = some (.sl 1 0 o.length o.length 1 1 o.length, QM l (turnI (vals rs) o)) := by
  have h4 := D.le4
  have h6 := D.le6
  have hpos := D.pos
  have hVp : 0 < (vals rs).length := by rw [vals_length]; exact hpos
  obtain ⟨W, hw⟩ := walk_facts hVp hc
  have hrng := en_rng hc
  have H0 : WOk (fun x => enI (vals rs) o x.toNat) (vals rs).length [] 0 := ⟨by simp, by simp, by omega, by simp, by simp⟩
  have H1 := H0.step hrng (by simp)
  simp only [List.nil_append] at H1
  have e0 : wlk (fun x => enI (vals rs) o x.toNat) ((vals rs).length + 1) [] 0 = wlk (fun x => enI (vals rs) o x.toNat) (vals rs).length [0] (enI (vals rs) o 0) := by
    rw [wlk, if_neg (by simp)]; rfl
  have hR := ringI_ok hVp hc
  unfold turnI turnedBy
  unfold ringI at hR ⊢
  rw [e0] at W hw hR ⊢
  rw [vals_length] at W hw hR H1 ⊢
  have hloop := rwalk_loop nl ex nl' ex' sz 1 D hc rs.length [0] (enI (vals rs) o 0) (by simp) H1 (by simp; omega)
  generalize wlk (fun x => enI (vals rs) o x.toNat) rs.length [0] (enI (vals rs) o 0) = lw at *
  obtain ⟨l, w⟩ := lw
  simp only at W hw hloop hR ⊢
  have hlen := nodup_le rs.length l W.nd W.rng
  have hne : l ≠ [] := by intro c; subst c; cases hw
  have hpl : 0 < l.length := List.length_pos_iff.2 hne
  have hl1 : ¬ l.length = 1 := by
    intro c
    have hlast := W.last hne
    cases l with
    | nil => exact hne rfl
    | cons a r =>
      cases r with
      | nil =>
        simp at hw hlast
        have := enI_ne (vals rs) o a.toNat
        have h0 := (W.rng a (by simp)).1
        rw [Int.toNat_of_nonneg h0] at this
        rw [hw] at hlast
        exact this hlast.symm
      | cons b r => simp at c
  obtain ⟨q, q1, q2, q3⟩ := rdrop_loop nl' ex' 1 o l w (by omega) l.length 0 (by omega) (by simpa using hw)
  rw [List.drop_zero] at q2
  rw [← q2] at hR ⊢
  have hg := rgive_outer nl' ex' 1 o l (by omega) q (l.length - q) (by omega) hR.nd o.length rfl h6 o.length 0 o (by omega) rfl rfl
  rw [mapFrom_eq _ _ _ _ (by omega), List.take_zero, List.drop_zero, List.nil_append] at hg
  have hone := calm_ne hVp hc
  have ho0 : ¬ o.length = 0 := by simpa using hone
  simp only [GW, GWm, if_neg hl1] at hloop
  have hloop : exF LP ref07_turned.L0 [(0, VL nl ex sz rs), (1, IL nl' ex' 1 o), (5, .lst false true 1 1 [.int .i64 0]), (6, .int .i64 (enI (vals rs) o 0))] [] = some (.exit 0, [(1, IL nl' ex' 1 o), (5, .sl 0 0 l.length l.length 1 1 l.length), (6, .int .i64 w)], [⟨l.map (LV.int .i64), true⟩]) := hloop
  have he := fun m => envious_c nl ex nl' ex' sz 1 D 0 m
  have ha : appendL [⟨l.map (LV.int .i64), true⟩] 1 8 (.lst false true 0 0 []) (IL nl' ex' 1 o) = some (.sl 1 0 o.length o.length 1 1 o.length, QM l o) := by
    have r1 : o.length * 8 ≤ roomMost := by unfold roomMost; omega
    have r2 : o.length ≤ roomMost := by unfold roomMost; omega
    have hsc : o.all (LV.scalar ∘ LV.int .i64) = true := by simp [LV.scalar]
    simp [appendL, contents, nbeq, nble, ho0, hone, r1, r2, newSl, hsc]
  refine ⟨l, ?_⟩
  simp only [Int.natCast_zero] at he hg q3
  have hvn : ∀ m, views m [] = some ([], []) := fun _ => rfl
  simp only [ref07_turned, ref07_turned.B, beqT, beqF, exF_seq, exF_region, exF_block, exF_cond, exF_ret, exF_exit, exF_skip, runL, wantL, stepL, evL, LEnv.at, putL, loadFine, loadL, cellsAt, Trk.putNew, Trk.up, Trk.touch, Trk.gives, Trk.calm, Trk.hit, opdsOf, Trk.fresh, LEnv.keep, LEnv.ofFrom, List.map_cons, List.map_nil, nbeq, nble, nblt, ofAV, ofAVs, lenL, bin_add, bin_sub, bin_mul, bin_eql, bin_neq, bin_lss, bin_leq, bin_gtr, bin_geq, natL_nat, natL_zero, natL_one, natL_two, Nat.zero_mul, List.any_cons, List.any_nil, Bool.or_false, Bool.false_or, Bool.true_or, Bool.or_true, Bool.and_true, Bool.true_and, Bool.and_false, Bool.false_and, Bool.not_true, Bool.not_false, Nat.reduceBEq, Nat.reduceEqDiff, decide_true, decide_false, cond_true, cond_false, List.filter_nil, List.filter_cons, Nat.reduceAdd, Nat.reduceLeDiff, reduceCtorEq, List.length_nil, List.length_cons, Nat.mul_one, if_true, if_false, Bool.false_eq_true, eq_self, and_true, true_and, retL, resultsL, resAllL, resOfL, List.append_nil, List.nil_append, List.cons_append, true_or, or_true, false_or, or_false, false_and, and_false, not_true_eq_false, not_false_eq_true, ne_eq, unL, trim_nil, views_pures, LV.pures, LV.pure, freeze, Nat.reduceDiv, Int.reduceEq, Int.reduceLT, Int.reduceLE, Int.natCast_zero, LV.cells, allocL, List.getElem?_cons_zero, List.getElem?_cons_succ, storeL, spliceL, List.take_zero, List.take_succ_cons, List.drop_zero, List.drop_succ_cons, List.drop_nil, List.take_nil, Nat.le_refl, Nat.reduceMul, List.set_cons_zero, List.set_cons_succ, LV.scalar, List.all_cons, List.all_nil, Nat.lt_add_one, Nat.zero_lt_one, Nat.lt_irrefl, fillL, List.length_append, foldIntL, kind_beq, pures_int, solids_int, plains_int, unders_int, scalars_int, he, hloop, q3, hvn, ha, hg]
theorem turned_m (nl ex : Bool) (sz : Nat) {rs : List Row} {o : List Int} (D : DOk rs o) (hc : calmI (vals rs) o = -1) {m : LMem} {i g : Nat} {b : Bool} (hb : m[i]? = some ⟨o.map (LV.int .i64), b⟩) :
    ∃ l : List Int, clF LP n_ref07_turned [VL nl ex sz rs, .sl i 0 o.length o.length g 1 o.length] m = some (.O, .sl (m.length + 1) 0 o.length o.length 1 1 o.length, m ++ QM l (turnI (vals rs) o)) := by
  obtain ⟨l, h⟩ := turned_run nl ex false (Nat.beq g 0) sz D hc
  refine ⟨l, ?_⟩
  rw [clF_eq, lp_ref07_turned]
  have hv := view_slO m i o.length g (VL nl ex sz rs) rfl o b hb rfl
  have hm : ref07_turned.mode = .O := rfl
  have hb2 : ref07_turned.body = ref07_turned.B := rfl
  simp only [callMode, hm, hv, hb2, h]
  simp [newOnly, LV.solid, LV.shift, shifts_int, solids_int, Nat.add_comm]
end Go.Am.Share
