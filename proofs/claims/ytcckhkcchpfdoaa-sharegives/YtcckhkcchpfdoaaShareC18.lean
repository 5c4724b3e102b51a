import Derived.Test.YtcckhkcchpfdoaaShareC17
/-
  What functions of chapter 07 compute, 18: the program turns a ring.
-/
set_option linter.unusedVariables false
set_option linter.unusedSimpArgs false
set_option maxRecDepth 10000
namespace Go.Am
theorem views_two (k : Nat) (m : LMem) (a b a' : LV) (ids : List Nat) (h : ∀ k, view (k + 3) m a = some (a', ids)) (hb : b.pure = true) (hn : LV.pures [a, b] = false) : viewL (k + 8) m [a, b] = some ([a', b], ids) := by
  rw [viewL.eq_def]
  simp only [hn, cond_false]
  rw [viewC.eq_def]
  simp only [h]
  rw [viewC.eq_def]
  simp only [view_pure _ _ b hb]
  rw [viewC.eq_def]
  simp
theorem views_one (k : Nat) (m : LMem) (a a' : LV) (ids : List Nat) (h : ∀ k, view (k + 3) m a = some (a', ids)) (hn : LV.pures [a] = false) : viewL (k + 8) m [a] = some ([a'], ids) := by
  rw [viewL.eq_def]
  simp only [hn, cond_false]
  rw [viewC.eq_def]
  simp only [h]
  rw [viewC.eq_def]
  simp
theorem view_sl (k : Nat) (m : LMem) (i p n L g : Nat) (cs : List Int) (b : Bool) (h : m[i]? = some ⟨cs.map (LV.int .i64), b⟩) (hL : cs.length = L) (hp : p + n ≤ L) (c : Nat) (hc : n ≤ c) : view (k + 3) m (.sl i p n c g 1 L) = some (IL false (Nat.beq g 0 && Nat.beq c n) 1 ((cs.drop p).take n), [i]) := by
  have h2 : ((cs.map (LV.int .i64)).drop p).take (n * 1) = ((cs.drop p).take n).map (LV.int .i64) := by simp [List.map_take, List.map_drop]
  simp only [view, h, h2, viewL_pures _ _ _ (pures_int .i64 _)]
  have : ((cs.drop p).take n).length = n := by simp; omega
  simp [nbeq, nble, hL, hp, hc, this]
theorem view_gv (k : Nat) (m : LMem) (i : Nat) (l : List Int) (h : l ≠ [] → m[i]? = some ⟨l.map (LV.int .i64), true⟩) : view (k + 3) m (GV i l) = some (RL l, if l = [] then [] else [i]) := by
  by_cases hl : l = []
  · subst hl; rfl
  · have h1 := h hl
    simp only [GV, if_neg hl, view, h1]
    have h2 : ((l.map (LV.int .i64)).drop 0).take (l.length * 1) = l.map (LV.int .i64) := by rw [List.drop_zero, List.take_of_length_le (by simp)]
    simp only [h2, viewL_pures _ _ _ (pures_int .i64 l)]
    have hd : decide (l = []) = false := by simpa using hl
    have hpos : ¬ l.length = 0 := by simpa using hl
    simp [hd, nbeq, nble]
theorem pures_nn (a b : LV) (h : a.pure = false) : LV.pures [a, b] = false := by simp [LV.pures, h]
theorem views_gv (m : LMem) (i : Nat) (l : List Int) (x : Int) (h : l ≠ [] → m[i]? = some ⟨l.map (LV.int .i64), true⟩) : views m [GV i l, .int .i64 x] = some ([RL l, .int .i64 x], if l = [] then [] else [i]) := by
  by_cases hl : l = []
  · subst hl; rfl
  · exact views_two 32 m _ _ _ _ (fun k => view_gv k m i l h) rfl (by simp [LV.pures, LV.pure, GV, hl])
theorem view_d (k : Nat) (m : LMem) (V : LV) (hV : V.pure = true) (i L g : Nat) (o : List Int) (b : Bool) (h : m[i]? = some ⟨o.map (LV.int .i64), b⟩) (hL : o.length = L) : view (k + 13) m (.agg [V, .sl i 0 L L g 1 L]) = some (.agg [V, IL false (Nat.beq g 0) 1 o], [i]) := by
  have h1 := fun k => view_sl k m i 0 L L g o b h hL (by omega) L (by omega)
  have hn : LV.pures [V, .sl i 0 L L g 1 L] = false := by simp [LV.pures, LV.pure]
  rw [view.eq_def]
  simp only
  rw [viewL.eq_def]
  simp only [hn, cond_false]
  rw [viewC.eq_def]
  simp only [view_pure _ _ V hV]
  rw [viewC.eq_def]
  simp only [h1]
  rw [viewC.eq_def]
  subst hL
  simp [nbeq]
end Go.Am
namespace Go.Am.Share
theorem pure_VL (nl ex : Bool) (sz : Nat) (rs : List Row) : (VL nl ex sz rs).pure = true := rfl
theorem enemy_m (nl ex : Bool) (sz : Nat) {rs : List Row} {o : List Int} (D : DOk rs o) {m : LMem} {i L : Nat} {b : Bool} (hb : m[i]? = some ⟨o.map (LV.int .i64), b⟩) (hL : o.length = L) {j : Int} (hj : 0 ≤ j) : clF LP n_share_division_enemy [.agg [VL nl ex sz rs, .sl i 0 L L 0 1 L], .int .i64 j] m = some (.P, .int .i64 (enI (vals rs) o j.toNat), m) := by
  obtain ⟨n, rfl⟩ := Int.eq_ofNat_of_zero_le hj
  refine call_view lp_share_division_enemy rfl (vs := [.agg [VL nl ex sz rs, IL false true 1 o], .int .i64 (n : Int)]) (ids := [i]) ?_ (by simp [LV.pures, LV.pure]) (enemy_c nl ex false true sz 1 D n []) rfl
  show viewL (26 + 13 + 1) m _ = _
  rw [viewL.eq_def]
  have hn : LV.pures [.agg [VL nl ex sz rs, .sl i 0 L L 0 1 L], .int .i64 (n : Int)] = false := by simp [LV.pures, LV.pure]
  simp only [hn, cond_false]
  rw [viewC.eq_def]
  have := view_d 25 m (VL nl ex sz rs) rfl i L 0 o b hb hL
  simp only [this]
  rw [viewC.eq_def]
  simp only [view_pure _ _ (.int .i64 (n : Int)) rfl]
  rw [viewC.eq_def]
  rfl
theorem calm_m (nl ex : Bool) (sz : Nat) {rs : List Row} {o : List Int} (D : DOk rs o) {m : LMem} {i L : Nat} {b : Bool} (hb : m[i]? = some ⟨o.map (LV.int .i64), b⟩) (hL : o.length = L) : clF LP n_share_division_calm [.agg [VL nl ex sz rs, .sl i 0 L L 0 1 L]] m = some (.P, .int .i64 (calmI (vals rs) o), m) := by
  refine call_view lp_share_division_calm rfl (vs := [.agg [VL nl ex sz rs, IL false true 1 o]]) (ids := [i]) ?_ (by simp [LV.pures, LV.pure]) (calm_c nl ex false true sz 1 D []) rfl
  show viewL (26 + 13 + 1) m _ = _
  rw [viewL.eq_def]
  have hn : LV.pures [.agg [VL nl ex sz rs, .sl i 0 L L 0 1 L]] = false := by simp [LV.pures, LV.pure]
  simp only [hn, cond_false]
  rw [viewC.eq_def]
  have := view_d 25 m (VL nl ex sz rs) rfl i L 0 o b hb hL
  simp only [this]
  rw [viewC.eq_def]
  rfl
theorem contains_m {m : LMem} {i : Nat} {l : List Int} (h : l ≠ [] → m[i]? = some ⟨l.map (LV.int .i64), true⟩) (hl : l.length < 1000000) (x : Int) : clF LP n_slices_Contains_int_int [GV i l, .int .i64 x] m = some (.P, .bool (decide (x ∈ l)), m) :=
  call_view lp_slices_Contains_int_int rfl (views_gv m i l x h) (by simp [LV.pures, LV.pure]) (contains_c _ _ _ l x hl []) rfl
theorem has_m {m : LMem} {i : Nat} {l : List Int} (h : l ≠ [] → m[i]? = some ⟨l.map (LV.int .i64), true⟩) (hl : l.length < 1000000) (x : Int) : clF LP n_ref07_has [GV i l, .int .i64 x] m = some (.P, .bool (decide (x ∈ l)), m) :=
  call_view lp_ref07_has rfl (views_gv m i l x h) (by simp [LV.pures, LV.pure]) (has_c _ _ _ l x hl []) rfl
theorem index_m {m : LMem} {i p n L g : Nat} {cs : List Int} {b : Bool} (h : m[i]? = some ⟨cs.map (LV.int .i64), b⟩) (hL : cs.length = L) (hp : p + n ≤ L) (hc : cs.length < 1000000) (x : Int) : clF LP n_slices_Index_int_int [.sl i p n n g 1 L, .int .i64 x] m = some (.P, .int .i64 (idxI x ((cs.drop p).take n) 0), m) := by
  have hlen : ((cs.drop p).take n).length = n := by simp; omega
  refine call_view lp_slices_Index_int_int rfl (vs := [IL false (Nat.beq g 0 && Nat.beq n n) 1 ((cs.drop p).take n), .int .i64 x]) (ids := [i]) ?_ (by simp [LV.pures, LV.pure]) (index_c _ _ _ _ x (by omega) []) rfl
  exact views_two 32 m _ _ _ _ (fun k => view_sl k m i p n L g cs b h hL hp n (by omega)) rfl (by simp [LV.pures, LV.pure])
theorem idxI_eq (x : Int) : ∀ (l : List Int) (k : Nat), idxI x l k = if x ∈ l then ((k + l.idxOf x : Nat) : Int) else -1
  | [], k => by simp [idxI]
  | a :: r, k => by
    rw [idxI, List.idxOf_cons]
    by_cases h : x = a
    · simp [h]
    · have h' : (a == x) = false := by simp; exact fun c => h c.symm
      rw [if_neg h, idxI_eq x r (k + 1), h', cond_false]
      by_cases c : x ∈ r
      · rw [if_pos c, if_pos (by simp [c])]; congr 1; omega
      · rw [if_neg c, if_neg (by simp [c, h])]
theorem ringOf_drop (w : Int) : ∀ (l : List Int), w ∈ l → ringOf w l = l.drop (l.idxOf w)
  | [], h => by cases h
  | a :: r, h => by
    rw [ringOf, List.idxOf_cons]
    by_cases c : a = w
    · simp [c]
    · have h' : (a == w) = false := by simpa using c
      rw [if_neg c, h', cond_false, List.drop_succ_cons]
      exact ringOf_drop w r (by rcases List.mem_cons.1 h with d | d; exact absurd d.symm c; exact d)

/-! ### The program's walk -/
def RB (V : LV) (o l : List Int) : LMem := [⟨[V, SLo 1 o.length], true⟩, ⟨o.map (LV.int .i64), true⟩, ⟨[V, SLo 1 o.length], true⟩, ⟨[V, SLo 1 o.length], true⟩] ++ GM l
theorem RB_1 (V : LV) (o l : List Int) : (RB V o l)[1]? = some ⟨o.map (LV.int .i64), true⟩ := rfl
theorem RB_3 (V : LV) (o l : List Int) : (RB V o l)[3]? = some ⟨[V, SLo 1 o.length], true⟩ := rfl
theorem RB_4 (V : LV) (o l : List Int) (h : l ≠ []) : (RB V o l)[4]? = some ⟨l.map (LV.int .i64), true⟩ := by simp [RB, GM, h]
theorem RB_append (V : LV) (o l : List Int) (x : Int) (h : l.length < 1000000) : appendL (RB V o l) 1 8 (GV 4 l) (.lst false true 1 1 [.int .i64 x]) = some (GV 4 (l ++ [x]), RB V o (l ++ [x])) :=
  append_grow [⟨[V, SLo 1 o.length], true⟩, ⟨o.map (LV.int .i64), true⟩, ⟨[V, SLo 1 o.length], true⟩, ⟨[V, SLo 1 o.length], true⟩] l x true h
theorem en_rng {V : List (List Int)} {o : List Int} (h : calmI V o = -1) : ∀ x, 0 ≤ x → x < (V.length : Int) → 0 ≤ enI V o x.toNat ∧ enI V o x.toNat < (V.length : Int) := fun x h0 h1 => by
  have := enI_ok h h0 h1
  exact ⟨this.1, this.2.1⟩
theorem walk_loop (nl ex : Bool) (sz : Nat) {rs : List Row} {o : List Int} (D : DOk rs o) (hc : calmI (vals rs) o = -1) (n : Nat) : ∀ (l : List Int) (w : Int), WOk (fun x => enI (vals rs) o x.toNat) rs.length l w → rs.length + 1 ≤ l.length + n →
    exF LP share_division_turn.L0 [(1, .ptr 3 0 2), (2, GV 4 l), (3, .int .i64 w)] (RB (VL nl ex sz rs) o l) =
      some (.exit 0, [(1, .ptr 3 0 2), (2, GV 4 (wlk (fun x => enI (vals rs) o x.toNat) n l w).1)], RB (VL nl ex sz rs) o (wlk (fun x => enI (vals rs) o x.toNat) n l w).1) := by
  have h4 := D.le4
  have hrng := en_rng hc
  rw [vals_length] at hrng
  induction n with
  | zero =>
    intro l w H hn
    have := nodup_le rs.length l H.nd H.rng
    omega
  | succ n ih =>
    intro l w H hn
    have hlen := nodup_le rs.length l H.nd H.rng
    have hcm := contains_m (m := RB (VL nl ex sz rs) o l) (i := 4) (RB_4 _ o l) (by omega) w
    rw [share_division_turn.L0_eq, wlk]
    by_cases hw : w ∈ l
    · simp only [share_division_turn.B0, beqT, beqF, exF_seq, exF_region, exF_block, exF_cond, exF_ret, exF_exit, exF_skip, runL, wantL, stepL, evL, LEnv.at, putL, loadFine, loadL, cellsAt, Trk.putNew, Trk.up, Trk.touch, Trk.gives, Trk.calm, Trk.hit, opdsOf, Trk.fresh, LEnv.keep, LEnv.ofFrom, List.map_cons, List.map_nil, nbeq, nble, nblt, ofAV, ofAVs, lenL, bin_add, bin_sub, bin_mul, bin_eql, bin_neq, bin_lss, bin_leq, bin_gtr, bin_geq, natL_nat, natL_zero, natL_one, natL_two, Nat.zero_mul, List.any_cons, List.any_nil, Bool.or_false, Bool.false_or, Bool.true_or, Bool.or_true, Bool.and_true, Bool.true_and, Bool.and_false, Bool.false_and, Bool.not_true, Bool.not_false, Nat.reduceBEq, Nat.reduceEqDiff, decide_true, decide_false, cond_true, cond_false, List.filter_nil, List.filter_cons, Nat.reduceAdd, Nat.reduceLeDiff, reduceCtorEq, List.length_nil, List.length_cons, Nat.mul_one, if_true, if_false, Bool.false_eq_true, eq_self, and_true, true_and, retL, resultsL, resAllL, resOfL, List.append_nil, List.nil_append, List.cons_append, true_or, or_true, false_or, or_false, false_and, and_false, not_true_eq_false, not_false_eq_true, ne_eq, unL, trim_nil, views_pures, LV.pures, LV.pure, freeze, Nat.reduceDiv, Int.reduceEq, Int.reduceLT, Int.reduceLE, Int.natCast_zero, LV.cells, allocL, List.getElem?_cons_zero, List.getElem?_cons_succ, storeL, spliceL, List.take_zero, List.take_succ_cons, List.drop_zero, List.drop_succ_cons, List.drop_nil, List.take_nil, Nat.le_refl, Nat.reduceMul, List.set_cons_zero, List.set_cons_succ, LV.scalar, List.all_cons, List.all_nil, Nat.lt_add_one, Nat.zero_lt_one, Nat.lt_irrefl, fillL, foldIntL, kind_beq, pures_int, solids_int, plains_int, unders_int, scalars_int, hcm, hw]
    · have he := enemy_m nl ex sz D (m := RB (VL nl ex sz rs) o (l ++ [w])) (RB_1 _ o _) rfl H.w0.1
      have ih := ih (l ++ [w]) _ (H.step hrng hw) (by simp; omega)
      have ha := RB_append (VL nl ex sz rs) o l w (by omega)
      simp only [share_division_turn.B0, beqT, beqF, exF_seq, exF_region, exF_block, exF_cond, exF_ret, exF_exit, exF_skip, runL, wantL, stepL, evL, LEnv.at, putL, loadFine, loadL, cellsAt, Trk.putNew, Trk.up, Trk.touch, Trk.gives, Trk.calm, Trk.hit, opdsOf, Trk.fresh, LEnv.keep, LEnv.ofFrom, List.map_cons, List.map_nil, nbeq, nble, nblt, ofAV, ofAVs, lenL, bin_add, bin_sub, bin_mul, bin_eql, bin_neq, bin_lss, bin_leq, bin_gtr, bin_geq, natL_nat, natL_zero, natL_one, natL_two, Nat.zero_mul, List.any_cons, List.any_nil, Bool.or_false, Bool.false_or, Bool.true_or, Bool.or_true, Bool.and_true, Bool.true_and, Bool.and_false, Bool.false_and, Bool.not_true, Bool.not_false, Nat.reduceBEq, Nat.reduceEqDiff, decide_true, decide_false, cond_true, cond_false, List.filter_nil, List.filter_cons, Nat.reduceAdd, Nat.reduceLeDiff, reduceCtorEq, List.length_nil, List.length_cons, Nat.mul_one, if_true, if_false, Bool.false_eq_true, eq_self, and_true, true_and, retL, resultsL, resAllL, resOfL, List.append_nil, List.nil_append, List.cons_append, true_or, or_true, false_or, or_false, false_and, and_false, not_true_eq_false, not_false_eq_true, ne_eq, unL, trim_nil, views_pures, LV.pures, LV.pure, freeze, Nat.reduceDiv, Int.reduceEq, Int.reduceLT, Int.reduceLE, Int.natCast_zero, LV.cells, allocL, List.getElem?_cons_zero, List.getElem?_cons_succ, storeL, spliceL, List.take_zero, List.take_succ_cons, List.drop_zero, List.drop_succ_cons, List.drop_nil, List.take_nil, Nat.le_refl, Nat.reduceMul, List.set_cons_zero, List.set_cons_succ, LV.scalar, List.all_cons, List.all_nil, Nat.lt_add_one, Nat.zero_lt_one, Nat.lt_irrefl, fillL, foldIntL, kind_beq, pures_int, solids_int, plains_int, unders_int, scalars_int, hcm, hw, ha, RB_3, he, ih]
end Go.Am.Share

/-
  What functions of chapter 07 compute, 19: the program turns a ring.
-/
set_option linter.unusedVariables false
set_option linter.unusedSimpArgs false
set_option maxRecDepth 10000
namespace Go.Am.Share
def mapFrom (f : Int → Int) : Nat → Nat → List Int → List Int
  | 0, _, c => c
  | n + 1, k, c => mapFrom f n (k + 1) (c.set k (f (c.getD k 0)))
theorem mapFrom_eq (f : Int → Int) : ∀ (n k : Nat) (c : List Int), k + n = c.length → mapFrom f n k c = c.take k ++ (c.drop k).map f
  | 0, k, c, h => by
    rw [mapFrom, List.drop_eq_nil_of_le (by omega), List.take_of_length_le (by omega)]; simp
  | n + 1, k, c, h => by
    have hk : k < c.length := by omega
    rw [mapFrom, mapFrom_eq f n (k + 1) _ (by simp; omega), List.drop_eq_getElem_cons hk]
    have h1 : c.getD k 0 = c[k] := by simp [List.getD_eq_getElem?_getD, hk]
    rw [h1, List.set_eq_take_append_cons_drop, if_pos hk]
    have e1 : (c.take k ++ f c[k] :: c.drop (k + 1)).take (k + 1) = c.take k ++ [f c[k]] := by
      rw [List.take_append, List.length_take, show k + 1 - min k c.length = 1 by omega, List.take_take, show min (k + 1) k = k by omega]
      simp
    have e2 : (c.take k ++ f c[k] :: c.drop (k + 1)).drop (k + 1) = c.drop (k + 1) := by
      rw [List.drop_append, List.length_take, show k + 1 - min k c.length = 1 by omega, List.drop_eq_nil_of_le (by simp; omega)]
      simp
    rw [e1, e2, List.map_cons, List.append_assoc]
    rfl
/-- The memory while owners are replaced. -/
abbrev RM (V : LV) (L : Nat) (c l : List Int) : LMem := [⟨[V, SLo 1 L], true⟩, ⟨c.map (LV.int .i64), true⟩, ⟨[V, SLo 1 L], true⟩, ⟨[V, SLo 1 L], true⟩, ⟨l.map (LV.int .i64), true⟩]
theorem take_drop_all (l : List Int) (p n : Nat) (h : p + n = l.length) : (l.drop p).take n = l.drop p := List.take_of_length_le (by simp; omega)
theorem nx_in {l : List Int} {p n : Nat} (h : p + n = l.length) (hn : 0 < n) {x : Int} (hx : x ∈ l.drop p) : nxI (l.drop p) x = l.getD (p + ((l.drop p).idxOf x + 1) % n) 0 := by
  have hl : (l.drop p).length = n := by simp; omega
  unfold nxI
  rw [if_pos hx, hl]
  simp only [List.getD_eq_getElem?_getD, List.getElem?_drop]
theorem give_loop (V : LV) (L : Nat) (hL : L ≤ 6) (l : List Int) (hll : l.length ≤ 100) (p n : Nat) (hp : p + n = l.length) (hn : 0 < n) (r : Nat) : ∀ (k : Nat) (c : List Int), k + r = L → c.length = L →
    exF LP share_division_turn.L1 [(1, .ptr 3 0 2), (5, .sl 4 p n n 1 1 l.length), (34, SLo 1 L), (35, .int .i64 (L : Int)), (36, .int .i64 (k : Int))] (RM V L c l) =
      some (.exit 2, [], RM V L (mapFrom (nxI (l.drop p)) r k c) l) := by
  induction r with
  | zero =>
    intro k c hk hc
    rw [share_division_turn.L1_eq]
    simp only [share_division_turn.B1, beqT, beqF, exF_seq, exF_region, exF_block, exF_cond, exF_ret, exF_exit, exF_skip, runL, wantL, stepL, evL, LEnv.at, putL, loadFine, loadL, cellsAt, Trk.putNew, Trk.up, Trk.touch, Trk.gives, Trk.calm, Trk.hit, opdsOf, Trk.fresh, LEnv.keep, LEnv.ofFrom, List.map_cons, List.map_nil, nbeq, nble, nblt, ofAV, ofAVs, lenL, bin_add, bin_sub, bin_mul, bin_eql, bin_neq, bin_lss, bin_leq, bin_gtr, bin_geq, natL_nat, natL_zero, natL_one, natL_two, Nat.zero_mul, List.any_cons, List.any_nil, Bool.or_false, Bool.false_or, Bool.true_or, Bool.or_true, Bool.and_true, Bool.true_and, Bool.and_false, Bool.false_and, Bool.not_true, Bool.not_false, Nat.reduceBEq, Nat.reduceEqDiff, decide_true, decide_false, cond_true, cond_false, List.filter_nil, List.filter_cons, Nat.reduceAdd, Nat.reduceLeDiff, reduceCtorEq, List.length_nil, List.length_cons, Nat.mul_one, if_true, if_false, Bool.false_eq_true, eq_self, and_true, true_and, retL, resultsL, resAllL, resOfL, List.append_nil, List.nil_append, List.cons_append, true_or, or_true, false_or, or_false, false_and, and_false, not_true_eq_false, not_false_eq_true, ne_eq, unL, trim_nil, views_pures, LV.pures, LV.pure, freeze, Nat.reduceDiv, Int.reduceEq, Int.reduceLT, Int.reduceLE, Int.natCast_zero, LV.cells, allocL, List.getElem?_cons_zero, List.getElem?_cons_succ, storeL, spliceL, List.take_zero, List.take_succ_cons, List.drop_zero, List.drop_succ_cons, List.drop_nil, List.take_nil, Nat.le_refl, Nat.reduceMul, List.set_cons_zero, List.set_cons_succ, LV.scalar, List.all_cons, List.all_nil, Nat.lt_add_one, Nat.zero_lt_one, Nat.lt_irrefl, fillL, List.length_append, foldIntL, kind_beq, pures_int, solids_int, plains_int, unders_int, scalars_int, show ¬ ((k : Int) < (L : Int)) by omega, mapFrom]
  | succ r ih =>
    intro k c hk hc
    have h2 : k < c.length := by omega
    have h3 : k < L := by omega
    have hx : c.getD k 0 = c[k] := by simp [List.getD_eq_getElem?_getD, h2]
    have hi := index_m (m := RM V L c l) (i := 4) (p := p) (n := n) (g := 1) (b := true) (cs := l) rfl rfl (by omega) (by omega) c[k]
    rw [take_drop_all l p n hp, idxI_eq] at hi
    rw [share_division_turn.L1_eq, mapFrom, hx]
    by_cases hm : c[k] ∈ l.drop p
    · rw [if_pos hm] at hi
      have hj : (l.drop p).idxOf c[k] < n := by
        have := idx_lt hm
        simp at this; omega
      have hnx := nx_in hp hn hm
      rw [hnx]
      generalize (l.drop p).idxOf c[k] = j at *
      have hq : (j + 1) % n < n := Nat.mod_lt _ hn
      have hq2 : p + (j + 1) % n < l.length := by omega
      have hv : l.getD (p + (j + 1) % n) 0 = l[p + (j + 1) % n] := by simp [List.getD_eq_getElem?_getD, hq2]
      have ih := ih (k + 1) (c.set k (l.getD (p + (j + 1) % n) 0)) (by omega) (by simpa using hc)
      rw [hv] at ih ⊢
      have hne : ((n : Nat) : Int) ≠ 0 := by omega
      have hge : (0 : Int) ≤ (j : Int) := by omega
      rw [Nat.zero_add] at hi
      simp only [share_division_turn.B1, beqT, beqF, exF_seq, exF_region, exF_block, exF_cond, exF_ret, exF_exit, exF_skip, runL, wantL, stepL, evL, LEnv.at, putL, loadFine, loadL, cellsAt, Trk.putNew, Trk.up, Trk.touch, Trk.gives, Trk.calm, Trk.hit, opdsOf, Trk.fresh, LEnv.keep, LEnv.ofFrom, List.map_cons, List.map_nil, nbeq, nble, nblt, ofAV, ofAVs, lenL, bin_add, bin_sub, bin_mul, bin_eql, bin_neq, bin_lss, bin_leq, bin_gtr, bin_geq, natL_nat, natL_zero, natL_one, natL_two, Nat.zero_mul, List.any_cons, List.any_nil, Bool.or_false, Bool.false_or, Bool.true_or, Bool.or_true, Bool.and_true, Bool.true_and, Bool.and_false, Bool.false_and, Bool.not_true, Bool.not_false, Nat.reduceBEq, Nat.reduceEqDiff, decide_true, decide_false, cond_true, cond_false, List.filter_nil, List.filter_cons, Nat.reduceAdd, Nat.reduceLeDiff, reduceCtorEq, List.length_nil, List.length_cons, Nat.mul_one, if_true, if_false, Bool.false_eq_true, eq_self, and_true, true_and, retL, resultsL, resAllL, resOfL, List.append_nil, List.nil_append, List.cons_append, true_or, or_true, false_or, or_false, false_and, and_false, not_true_eq_false, not_false_eq_true, ne_eq, unL, trim_nil, views_pures, LV.pures, LV.pure, freeze, Nat.reduceDiv, Int.reduceEq, Int.reduceLT, Int.reduceLE, Int.natCast_zero, LV.cells, allocL, List.getElem?_cons_zero, List.getElem?_cons_succ, storeL, spliceL, List.take_zero, List.take_succ_cons, List.drop_zero, List.drop_succ_cons, List.drop_nil, List.take_nil, Nat.le_refl, Nat.reduceMul, List.set_cons_zero, List.set_cons_succ, LV.scalar, List.all_cons, List.all_nil, Nat.lt_add_one, Nat.zero_lt_one, Nat.lt_irrefl, fillL, List.length_append, foldIntL, kind_beq, pures_int, solids_int, plains_int, unders_int, scalars_int, show ((k : Int) < (L : Int)) by omega, h2, h3, hc, int_at _ _ _ h2, Nat.zero_add, List.length_map, hi, hge, wrap_succ (show j + 1 < 9223372036854775808 by omega), bin_rem _ _ _ hne, tmod_nat, hq, hq2, int_at _ _ _ hq2, set_int _ _ _ _ h2, show k + 1 ≤ L by omega, wrap_succ (show k + 1 < 9223372036854775808 by omega), ih]
    · rw [if_neg hm] at hi
      have hnx : nxI (l.drop p) c[k] = c[k] := by unfold nxI; rw [if_neg hm]
      rw [hnx, List.set_getElem_self]
      have ih := ih (k + 1) c (by omega) hc
      simp only [share_division_turn.B1, beqT, beqF, exF_seq, exF_region, exF_block, exF_cond, exF_ret, exF_exit, exF_skip, runL, wantL, stepL, evL, LEnv.at, putL, loadFine, loadL, cellsAt, Trk.putNew, Trk.up, Trk.touch, Trk.gives, Trk.calm, Trk.hit, opdsOf, Trk.fresh, LEnv.keep, LEnv.ofFrom, List.map_cons, List.map_nil, nbeq, nble, nblt, ofAV, ofAVs, lenL, bin_add, bin_sub, bin_mul, bin_eql, bin_neq, bin_lss, bin_leq, bin_gtr, bin_geq, natL_nat, natL_zero, natL_one, natL_two, Nat.zero_mul, List.any_cons, List.any_nil, Bool.or_false, Bool.false_or, Bool.true_or, Bool.or_true, Bool.and_true, Bool.true_and, Bool.and_false, Bool.false_and, Bool.not_true, Bool.not_false, Nat.reduceBEq, Nat.reduceEqDiff, decide_true, decide_false, cond_true, cond_false, List.filter_nil, List.filter_cons, Nat.reduceAdd, Nat.reduceLeDiff, reduceCtorEq, List.length_nil, List.length_cons, Nat.mul_one, if_true, if_false, Bool.false_eq_true, eq_self, and_true, true_and, retL, resultsL, resAllL, resOfL, List.append_nil, List.nil_append, List.cons_append, true_or, or_true, false_or, or_false, false_and, and_false, not_true_eq_false, not_false_eq_true, ne_eq, unL, trim_nil, views_pures, LV.pures, LV.pure, freeze, Nat.reduceDiv, Int.reduceEq, Int.reduceLT, Int.reduceLE, Int.natCast_zero, LV.cells, allocL, List.getElem?_cons_zero, List.getElem?_cons_succ, storeL, spliceL, List.take_zero, List.take_succ_cons, List.drop_zero, List.drop_succ_cons, List.drop_nil, List.take_nil, Nat.le_refl, Nat.reduceMul, List.set_cons_zero, List.set_cons_succ, LV.scalar, List.all_cons, List.all_nil, Nat.lt_add_one, Nat.zero_lt_one, Nat.lt_irrefl, fillL, List.length_append, foldIntL, kind_beq, pures_int, solids_int, plains_int, unders_int, scalars_int, show ((k : Int) < (L : Int)) by omega, h2, h3, hc, int_at _ _ _ h2, Nat.zero_add, List.length_map, hi, wrap_succ (show k + 1 < 9223372036854775808 by omega), ih]
theorem walk_facts {V : List (List Int)} {o : List Int} (hV : 0 < V.length) (h : calmI V o = -1) : WOk (fun x => enI V o x.toNat) V.length (wlk (fun x => enI V o x.toNat) (V.length + 1) [] 0).1 (wlk (fun x => enI V o x.toNat) (V.length + 1) [] 0).2 ∧ (wlk (fun x => enI V o x.toNat) (V.length + 1) [] 0).2 ∈ (wlk (fun x => enI V o x.toNat) (V.length + 1) [] 0).1 := by
  have H : WOk (fun x => enI V o x.toNat) V.length [] 0 := ⟨by simp, by simp, by omega, by simp, by simp⟩
  exact wlk_ok (en_rng h) (V.length + 1) [] 0 H (by simp)
theorem turn_c (nl ex : Bool) (sz : Nat) {rs : List Row} {o : List Int} (D : DOk rs o) (hc : calmI (vals rs) o = -1) :
    clF LP n_share_division_turn [.agg [VL nl ex sz rs, SLo 1 o.length]] (TM (VL nl ex sz rs) o) = some (.W, .tup [], TM (VL nl ex sz rs) (turnI (vals rs) o)) := by
  have h4 := D.le4
  have h6 := D.le6
  have hpos := D.pos
  obtain ⟨W, hw⟩ := walk_facts (by rw [vals_length]; exact hpos) hc
  have hloop := walk_loop nl ex sz D hc (rs.length + 1) [] 0 ⟨by simp, by simp, by omega, by simp, by simp⟩ (by simp)
  unfold turnI turnedBy ringI
  rw [vals_length] at W hw ⊢
  generalize wlk (fun x => enI (vals rs) o x.toNat) (rs.length + 1) [] 0 = lw at *
  obtain ⟨l, w⟩ := lw
  simp only at W hw hloop ⊢
  have hlen := nodup_le rs.length l W.nd W.rng
  have hne : l ≠ [] := by intro c; subst c; cases hw
  have hpl : 0 < l.length := List.length_pos_iff.2 hne
  have hlast := W.last hne
  have hlm : l.length - 1 < l.length := by omega
  have hlv : l.getD (l.length - 1) 0 = l[l.length - 1] := by simp [List.getD_eq_getElem?_getD, hlm]
  rw [hlv] at hlast
  have hl0 := W.rng _ (List.getElem_mem hlm)
  rw [ringOf_drop w l hw]
  have hidx := idx_lt hw
  have hring : (l.drop (l.idxOf w)) ≠ [] := by intro c; have := congrArg List.length c; simp at this; omega
  have he := enemy_m nl ex sz D (m := RM (VL nl ex sz rs) o.length o l) (i := 1) (b := true) rfl rfl hl0.1
  rw [← hlast] at he
  have hi := index_m (m := RM (VL nl ex sz rs) o.length o l) (i := 4) (p := 0) (n := l.length) (g := 1) (b := true) (cs := l) rfl rfl (by omega) (by omega) w
  rw [List.drop_zero, List.take_length, idxI_eq, if_pos hw, Nat.zero_add] at hi
  have hg := give_loop (VL nl ex sz rs) o.length h6 l (by omega) (l.idxOf w) (l.length - l.idxOf w) (by omega) (by omega) o.length 0 o (by omega) rfl
  rw [mapFrom_eq _ _ _ _ (by omega), List.take_zero, List.drop_zero, List.nil_append] at hg
  rw [GV_nil] at hloop
  have hloop : exF LP share_division_turn.L0 [(1, .ptr 3 0 2), (2, LNIL), (3, .int .i64 0)] [⟨[VL nl ex sz rs, SLo 1 o.length], true⟩, ⟨o.map (LV.int .i64), true⟩, ⟨[VL nl ex sz rs, SLo 1 o.length], true⟩, ⟨[VL nl ex sz rs, SLo 1 o.length], true⟩] = some (.exit 0, [(1, .ptr 3 0 2), (2, GV 4 l)], RB (VL nl ex sz rs) o l) := hloop
  have e1 : GV 4 l = .sl 4 0 l.length l.length 1 1 l.length := by simp [GV, hne]
  have e2 : RB (VL nl ex sz rs) o l = RM (VL nl ex sz rs) o.length o l := by simp [RB, GM, hne]
  rw [e1, e2] at hloop
  have hw1 : IntKind.i64.wrap ((l.length : Int) - 1) = ((l.length - 1 : Nat) : Int) := by rw [wrap_in (by omega)]; omega
  have hsl : sliceL 1 (.sl 4 0 l.length l.length 1 1 l.length) (some (.int .i64 ((l.idxOf w : Nat) : Int))) none none = some (.sl 4 (l.idxOf w) (l.length - l.idxOf w) (l.length - l.idxOf w) 1 1 l.length) := by
    have hle : l.idxOf w ≤ l.length := by omega
    simp [sliceL, optNatL, natL_nat, nble, nbeq, hle]
  generalize l.idxOf w = p at *
  have hml : (o.map (nxI (l.drop p))).length = o.length := by simp
  generalize o.map (nxI (l.drop p)) = o2 at *
  simp only [TM, hml]
  rw [clF_eq, lp_share_division_turn]
  simp only [callMode, share_division_turn, Int.natCast_zero] at hg ⊢
  simp only [share_division_turn.B, beqT, beqF, exF_seq, exF_region, exF_block, exF_cond, exF_ret, exF_exit, exF_skip, runL, wantL, stepL, evL, LEnv.at, putL, loadFine, loadL, cellsAt, Trk.putNew, Trk.up, Trk.touch, Trk.gives, Trk.calm, Trk.hit, opdsOf, Trk.fresh, LEnv.keep, LEnv.ofFrom, List.map_cons, List.map_nil, nbeq, nble, nblt, ofAV, ofAVs, lenL, bin_add, bin_sub, bin_mul, bin_eql, bin_neq, bin_lss, bin_leq, bin_gtr, bin_geq, natL_nat, natL_zero, natL_one, natL_two, Nat.zero_mul, List.any_cons, List.any_nil, Bool.or_false, Bool.false_or, Bool.true_or, Bool.or_true, Bool.and_true, Bool.true_and, Bool.and_false, Bool.false_and, Bool.not_true, Bool.not_false, Nat.reduceBEq, Nat.reduceEqDiff, decide_true, decide_false, cond_true, cond_false, List.filter_nil, List.filter_cons, Nat.reduceAdd, Nat.reduceLeDiff, reduceCtorEq, List.length_nil, List.length_cons, Nat.mul_one, if_true, if_false, Bool.false_eq_true, eq_self, and_true, true_and, retL, resultsL, resAllL, resOfL, List.append_nil, List.nil_append, List.cons_append, true_or, or_true, false_or, or_false, false_and, and_false, not_true_eq_false, not_false_eq_true, ne_eq, unL, trim_nil, views_pures, LV.pures, LV.pure, freeze, Nat.reduceDiv, Int.reduceEq, Int.reduceLT, Int.reduceLE, Int.natCast_zero, LV.cells, allocL, List.getElem?_cons_zero, List.getElem?_cons_succ, storeL, spliceL, List.take_zero, List.take_succ_cons, List.drop_zero, List.drop_succ_cons, List.drop_nil, List.take_nil, Nat.le_refl, Nat.reduceMul, List.set_cons_zero, List.set_cons_succ, LV.scalar, List.all_cons, List.all_nil, Nat.lt_add_one, Nat.zero_lt_one, Nat.lt_irrefl, fillL, foldIntL, kind_beq, pures_int, solids_int, plains_int, unders_int, scalars_int, RM, hloop, he, hi, hg, Option.map_some, Option.map_none, hsl, hlm, hw1, int_at _ _ _ hlm, Nat.zero_add, List.length_map]
  simp [trim, belowM, LV.unders, LV.under, unders_int, nblt]
end Go.Am.Share

