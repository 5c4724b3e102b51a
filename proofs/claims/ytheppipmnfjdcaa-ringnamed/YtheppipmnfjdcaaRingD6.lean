import Derived.Test.YtheppipmnfjdcaaRingP7
import Derived.Test.YtheppipmnfjdcaaLaw1
import Derived.Test.YtheppipmnfjdcaaRingC24
import Derived.Test.YtheppipmnfjdcaaRingC16
import Derived.Test.YtheppipmnfjdcaaRingC27
/-
  What functions of chapter 04 compute, outright 6: an order by numbers, and finds turned, with other numbers.
-/
set_option linter.unusedVariables false
set_option linter.unusedSimpArgs false
set_option maxRecDepth 10000
namespace Go.Am.Ring
open Go.Am.G

/-! ### A thing is taken out of a list -/
theorem app_del (m : LMem) (i : Nat) (a b : List Int) (x : Int) (Z : List LV) (c c' : Nat) (L : Nat) (h : m[i]? = some ⟨ints (a ++ x :: b) ++ Z, true⟩) (hL : a.length + 1 + b.length + Z.length = L) (hc : a.length + b.length ≤ c) (hs : L < 1000000) :
    ∃ C, appendL m 1 8 (.sl i 0 a.length c 1 1 L) (.sl i (a.length + 1) b.length c' 1 1 L) = some (.sl i 0 (a.length + b.length) c 1 1 L, m.set i ⟨C, true⟩) ∧ C.length = L ∧ C.take (a.length + b.length) = ints (a ++ b) ∧ C.drop (a.length + b.length + 1) = Z := by
  have hlen : (ints (a ++ x :: b) ++ Z).length = L := by simp; omega
  have c1 : contents m 1 (.sl i 0 a.length c 1 1 L) = some (ints a, a.length) := by
    simp only [contents, h]
    simp only [nbeq, nble, hlen, Nat.mul_one, Nat.zero_add, show a.length ≤ L by omega, decide_true, Bool.and_self, cond_true, List.drop_zero]
    congr 2
    rw [List.take_append_of_le_length (by simp), ← List.map_take]
    simp
  have c2 : contents m 1 (.sl i (a.length + 1) b.length c' 1 1 L) = some (ints b, b.length) := by
    simp only [contents, h]
    simp only [nbeq, nble, hlen, Nat.mul_one, show a.length + 1 + b.length ≤ L by omega, decide_true, Bool.and_self, cond_true]
    congr 2
    rw [List.drop_append_of_le_length (by simp), ← List.map_drop]
    have : (a ++ x :: b).drop (a.length + 1) = b := by
      rw [← List.drop_drop, List.drop_left]; rfl
    rw [this, List.take_append_of_le_length (by simp), List.take_of_length_le (by simp)]
  by_cases hb : b.length = 0
  · have hb' : b = [] := List.length_eq_zero_iff.1 hb
    subst hb'
    have hdz : (ints (a ++ [x]) ++ Z).drop (ints (a ++ [x])).length = Z := List.drop_left
    refine ⟨ints (a ++ [x]) ++ Z, ?_, by simpa using hlen, by simp, by simpa using hdz⟩
    have hm : m.set i ⟨ints (a ++ [x]) ++ Z, true⟩ = m := by
      apply List.ext_getElem?
      intro j
      rw [List.getElem?_set]
      by_cases hj : i = j
      · subst hj
        have hi := (List.getElem?_eq_some_iff.1 h).1
        simp only [if_true, hi]
        exact h.symm
      · simp [hj]
    rw [hm]
    unfold appendL
    simp only [c1, c2]
    have hc2 : a.length ≤ c := by simpa using hc
    simp [nbeq, nble, hc2]
  · have hroom : (Nat.ble ((a.length + b.length) * 8) roomMost && Nat.ble (a.length + b.length) roomMost && (ints b).all LV.scalar) = true := by
      rw [scalars_int]
      simp only [roomMost, nble, Bool.and_true, Bool.and_eq_true, decide_eq_true_eq]
      omega
    have hsp : spliceL (ints (a ++ x :: b) ++ Z) (0 + a.length * 1) (ints b) = ints a ++ ints b ++ (ints (a ++ x :: b) ++ Z).drop (a.length + b.length) := by
      unfold spliceL
      rw [Nat.mul_one, Nat.zero_add]
      congr 1
      · rw [List.take_append_of_le_length (by simp), ← List.map_take]; simp
      · congr 1; simp
    refine ⟨ints a ++ ints b ++ (ints (a ++ x :: b) ++ Z).drop (a.length + b.length), ?_, ?_, ?_, ?_⟩
    · unfold appendL
      simp only [c1, c2, hroom, h]
      simp only [nbeq, hb, decide_false, cond_false, cond_true, nble, hc, decide_true]
      rw [hsp]
      simp [show a.length + b.length ≤ L by omega]
    · simp only [List.length_append, List.length_drop, List.length_map, List.length_cons]; omega
    · rw [List.take_append_of_le_length (by simp), List.take_of_length_le (by simp)]
      simp
    · rw [List.drop_append, List.drop_eq_nil_of_le (by simp), List.nil_append, List.drop_drop]
      simp only [List.length_append, List.length_map]
      rw [show a.length + b.length + (a.length + b.length + 1 - (a.length + b.length)) = (ints (a ++ x :: b)).length + 0 by simp; omega, List.drop_append]
      simp
theorem delete_c (m : LMem) (i : Nat) (a b : List Int) (x : Int) (Z : List LV) (c : Nat) (L : Nat) (h : m[i]? = some ⟨ints (a ++ x :: b) ++ Z, true⟩) (hL : a.length + 1 + b.length + Z.length = L) (hc : a.length + 1 + b.length ≤ c) (hs : L < 1000000) :
    clF LP n_slices_Delete_int_int [.sl i 0 (a.length + 1 + b.length) c 1 1 L, .int .i64 ((a.length : Nat) : Int), .int .i64 ((a.length + 1 : Nat) : Int)] m = some (.W, .sl i 0 (a.length + b.length) c 1 1 L, m.set i ⟨ints (a ++ b) ++ .int .i64 0 :: Z, true⟩) := by
  obtain ⟨C, h1, h2, h3, h4⟩ := app_del m i a b x Z c (c - (a.length + 1)) L h hL (by omega) hs
  have hi := (List.getElem?_eq_some_iff.1 h).1
  have hb1 : a.length + 1 + b.length - (a.length + 1) = b.length := by omega
  have hcl : clrL (m.set i ⟨C, true⟩) (.int .i64 0) (.sl i (a.length + b.length) 1 (c - (a.length + b.length)) 1 1 L) = some (m.set i ⟨ints (a ++ b) ++ .int .i64 0 :: Z, true⟩) := by
    simp only [clrL, List.getElem?_set, if_true, hi, List.set_set]
    simp only [nbeq, nble, h2, show a.length + b.length + 1 ≤ L by omega, decide_true, AV.scalar, Bool.and_self, cond_true, spliceL, h3]
    simp only [List.replicate, List.length_cons, List.length_nil, h4, ofAV]
    simp
  have ht : trim m.length [.sl i 0 (a.length + b.length) c 1 1 L] (m.set i ⟨ints (a ++ b) ++ .int .i64 0 :: Z, true⟩) = m.set i ⟨ints (a ++ b) ++ .int .i64 0 :: Z, true⟩ := trim_le _ _ _ (by simp)
  conv => rhs; rw [← ht]
  refine call_W lp_slices_Delete_int_int rfl ?_
  have e1 : ¬ (a.length : Int) = ((a.length + 1 : Nat) : Int) := by omega
  simp only [slices_Delete_int_int, slices_Delete_int_int.B, exF_seq, exF_region, exF_cond, exF_ret, exF_skip, runL, wantL, stepL, evL, evC, LEnv.at, putL, loadFine, LEnv.keep, LEnv.ofFrom, List.map_cons, List.map_nil, nbeq, nble, lenL, bin_eql, natL_nat, Bool.or_true, Bool.and_true, Bool.true_and, Nat.reduceEqDiff, decide_true, decide_false, cond_true, cond_false, Nat.reduceAdd, reduceCtorEq, Nat.mul_one, eq_self, retL, resultsL, resAllL, resOfL, Nat.le_refl, sliceL, optNatL, Option.map_some, Option.map_none, Option.isSome_some, Option.isSome_none, Bool.or_true, show a.length + 1 + b.length ≤ c by omega, show a.length + 1 ≤ a.length + 1 + b.length by omega, show a.length ≤ a.length + 1 by omega, e1, hb1, show a.length ≤ c by omega, Nat.zero_le, Nat.zero_add, Nat.sub_zero, h1]
  simp only [LEnv.at, nbeq, decide_true, decide_false, cond_true, cond_false, reduceCtorEq, eq_self, show a.length + b.length ≤ a.length + 1 + b.length by omega, show a.length + 1 + b.length - (a.length + b.length) = 1 by omega, hcl]

/-! ### An order by numbers -/
def drw (bs : List Nat) : Nat → Nat → List Nat → List Nat → List Nat
  | 0, _, _, out => out
  | d + 1, i, left, out => drw bs d (i + 1) (left.eraseIdx (bs.getD i 0 % left.length)) (out ++ [left.getD (bs.getD i 0 % left.length) 0])
abbrev drawn (n : Nat) (bs : List Nat) : List Nat := drw bs n 0 (List.range n) []
theorem erase_perm : ∀ (l : List Nat) (k : Nat), k < l.length → (l.getD k 0 :: l.eraseIdx k).Perm l
  | [], k, h => by simp at h
  | a :: l, 0, _ => List.Perm.refl _
  | a :: l, k + 1, h => by
    have ih := erase_perm l k (by simpa using h)
    show (l.getD k 0 :: a :: l.eraseIdx k).Perm (a :: l)
    exact (List.Perm.swap a _ _).trans (ih.cons a)
theorem drw_perm (bs : List Nat) : ∀ (d i : Nat) (left out : List Nat), left.length = d → (drw bs d i left out).Perm (out ++ left)
  | 0, i, left, out, h => by rw [List.length_eq_zero_iff.1 h, drw, List.append_nil]
  | d + 1, i, left, out, h => by
    have hk : bs.getD i 0 % left.length < left.length := Nat.mod_lt _ (by omega)
    rw [drw]
    refine (drw_perm bs d (i + 1) _ _ (by rw [List.length_eraseIdx, if_pos hk]; omega)).trans ?_
    rw [List.append_assoc]
    exact (erase_perm left _ hk).append_left out
theorem drawn_perm (n : Nat) (bs : List Nat) : (drawn n bs).Perm (List.range n) := by
  have := drw_perm bs n 0 (List.range n) [] (by simp)
  rwa [List.nil_append] at this
theorem drawn_len (n : Nat) (bs : List Nat) : (drawn n bs).length = n := by rw [(drawn_perm n bs).length_eq, List.length_range]
theorem drawn_nodup (n : Nat) (bs : List Nat) : (drawn n bs).Nodup := (drawn_perm n bs).nodup_iff.2 List.nodup_range
theorem drawn_mem (n : Nat) (bs : List Nat) (x : Nat) : x ∈ drawn n bs ↔ x < n := by rw [(drawn_perm n bs).mem_iff, List.mem_range]
/-- The change of numbers that an order is. -/
theorem rel_of {n : Nat} {t : List Nat} (hl : t.length = n) (hnd : t.Nodup) (hm : ∀ x, x ∈ t ↔ x < n) : Rel n (fun x => t.getD x 0) (fun y => t.idxOf y) := by
  refine ⟨fun x hx => ?_, fun y hy => ?_, fun x hx => ?_, fun y hy => ?_⟩
  · simp only [getD_at t x 0 (by omega)]
    exact (hm _).1 (List.getElem_mem _)
  · rw [← hl]
    exact List.idxOf_lt_length_iff.2 ((hm y).2 hy)
  · simp only [getD_at t x 0 (by omega)]
    exact hnd.idxOf_getElem x (by omega)
  · have h := List.idxOf_lt_length_iff.2 ((hm y).2 hy)
    simp only [getD_at t _ 0 h]
    exact List.getElem_idxOf h
theorem named0 (X2 X4 X8 : LV) (pre : LMem) (n : Nat) (hn : n ≤ 6) (d : Nat) : ∀ x, x + d = n →
    exF LP law04_RingNamed.L0 [(2, X2), (4, X4), (7, .int .i64 (n : Int)), (8, X8), (9, GV pre.length (ci (List.range x))), (10, .lst true true 0 0 []), (36, .int .i64 (n : Int)), (37, .int .i64 (x : Int))] (pre ++ GM (ci (List.range x))) =
      some (.exit 0, [(2, X2), (4, X4), (7, .int .i64 (n : Int)), (8, X8), (9, GV pre.length (ci (List.range n))), (10, .lst true true 0 0 [])], pre ++ GM (ci (List.range n))) := by
  induction d with
  | zero =>
    intro x hx
    obtain rfl : x = n := by omega
    rw [law04_RingNamed.L0_eq]
    simp only [law04_RingNamed.B0, exF_seq, exF_region, exF_cond, exF_exit, runL, wantL, stepL, evL, LEnv.at, putL, loadFine, LEnv.keep, List.map_cons, List.map_nil, nbeq, bin_lss, Nat.reduceEqDiff, decide_true, decide_false, cond_true, cond_false, eq_self, Int.lt_irrefl]
  | succ d ih =>
    intro x hx
    have ih := ih (x + 1) (by omega)
    have ha := append_grow pre (ci (List.range x)) (x : Int) true (by simp; omega)
    have e : ci (List.range (x + 1)) = ci (List.range x) ++ [(x : Int)] := by simp [List.range_succ]
    rw [e] at ih
    rw [law04_RingNamed.L0_eq]
    generalize pre ++ GM (ci (List.range x) ++ [(x : Int)]) = M2 at *
    generalize GV pre.length (ci (List.range x) ++ [(x : Int)]) = v2 at *
    generalize pre ++ GM (ci (List.range x)) = M1 at *
    generalize GV pre.length (ci (List.range x)) = v1 at *
    have hvi : ∀ m (x : Int), views m [.int .i64 x] = some ([.int .i64 x], []) := fun m x => rfl
    have hci : ∀ (x : Int), (LV.int .i64 x).cells = some [.int .i64 x] := fun x => rfl
    simp only [law04_RingNamed.B0, exF_seq, exF_region, exF_block, exF_cond, exF_skip, runL, wantL, stepL, evL, evC, LEnv.at, putL, loadFine, LEnv.keep, List.map_cons, List.map_nil, nbeq, nble, ofAV, ofAVs, bin_add, bin_lss, Bool.or_false, Bool.and_true, Nat.reduceEqDiff, decide_true, decide_false, cond_true, cond_false, Nat.reduceAdd, reduceCtorEq, List.length_nil, List.length_cons, Nat.mul_one, eq_self, List.append_nil, List.nil_append, Nat.reduceDiv, spliceL, List.take_zero, List.take_succ_cons, List.drop_succ_cons, List.drop_nil, List.take_nil, Nat.le_refl, fillL, show ((x : Int) < (n : Int)) by omega, hvi, freeze_nil, hci, ha, wrap_succ (show x + 1 < 9223372036854775808 by omega), ih]
theorem named1 (X2 X8 : LV) (W : LBlk) (bs : List Nat) (hb6 : bs.length = 6) (hb : ∀ x ∈ bs, x < 256) (n : Nat) (hn : n ≤ 6) (d : Nat) : ∀ (i : Nat) (left out : List Nat) (Z : List LV), i + d = n → left.length = d → Z.length = i → out.length = i →
    ∃ Z', exF LP law04_RingNamed.L1 [(2, X2), (4, .ptr 1 0 6), (7, .int .i64 (n : Int)), (8, X8), (9, .sl 2 0 d n 1 1 n), (10, GV 3 (ci out)), (45, .int .i64 (n : Int)), (46, .int .i64 (i : Int))] ([W, ⟨bys bs, true⟩, ⟨ints (ci left) ++ Z, true⟩] ++ GM (ci out)) =
      some (.exit 2, [(2, X2), (7, .int .i64 (n : Int)), (8, X8), (10, GV 3 (ci (drw bs d i left out)))], [W, ⟨bys bs, true⟩, ⟨Z', true⟩] ++ GM (ci (drw bs d i left out))) := by
  induction d with
  | zero =>
    intro i left out Z hi hl hz ho
    obtain rfl : i = n := by omega
    refine ⟨ints (ci left) ++ Z, ?_⟩
    rw [law04_RingNamed.L1_eq]
    simp only [law04_RingNamed.B1, exF_seq, exF_region, exF_cond, exF_exit, runL, wantL, stepL, evL, LEnv.at, putL, loadFine, LEnv.keep, List.map_cons, List.map_nil, nbeq, bin_lss, Nat.reduceEqDiff, decide_true, decide_false, cond_true, cond_false, eq_self, Int.lt_irrefl, drw]
  | succ d ih =>
    intro i left out Z hi hl hz ho
    have hib : i < bs.length := by omega
    have hk : bs.getD i 0 % left.length < left.length := Nat.mod_lt _ (by omega)
    rw [drw]
    have hge : bs.getD i 0 = bs[i] := getD_at bs i 0 hib
    have hat : (bys bs)[i]? = some (.int .u8 ((bs.getD i 0 : Nat) : Int)) := by rw [bys_at bs i hib, hge]
    have hbl : (bys bs).length = 6 := by simp [hb6]
    have hw : IntKind.i64.wrap ((bs.getD i 0 : Nat) : Int) = ((bs.getD i 0 : Nat) : Int) := conv8 (by rw [hge]; exact hb _ (List.getElem_mem hib))
    have hrem : binL .rem (.int .i64 ((bs.getD i 0 : Nat) : Int)) (.int .i64 ((d + 1 : Nat) : Int)) = some (.int .i64 ((bs.getD i 0 % left.length : Nat) : Int)) := by
      rw [bin_rem (k := .i64) (a := ((bs.getD i 0 : Nat) : Int)) (b := ((d + 1 : Nat) : Int)) (show ((d + 1 : Nat) : Int) ≠ 0 by omega), hl, tmod_nat]
    generalize bs.getD i 0 % left.length = k at hk hrem ⊢
    generalize bs.getD i 0 = bi at hat hw hrem
    have hcell : (ints (ci left) ++ Z)[k]? = some (.int .i64 ((left.getD k 0 : Nat) : Int)) := by
      rw [List.getElem?_append_left (by simpa using hk), getD_at left k 0 hk]
      simp [hk]
    have hll : (ints (ci left) ++ Z).length = n := by simp; omega
    have ha := append_grow [W, ⟨bys bs, true⟩, ⟨ints (ci left) ++ Z, true⟩] (ci out) ((left.getD k 0 : Nat) : Int) true (by rw [ci_len]; omega)
    have eo : ci out ++ [((left.getD k 0 : Nat) : Int)] = ci (out ++ [left.getD k 0]) := by simp
    rw [eo] at ha
    have esp : left = left.take k ++ left[k] :: left.drop (k + 1) := by rw [← List.drop_eq_getElem_cons hk, List.take_append_drop]
    have el : ci left = ci (left.take k) ++ ((left[k] : Nat) : Int) :: ci (left.drop (k + 1)) := by
      have := congrArg ci esp
      simpa only [ci, List.map_append, List.map_cons] using this
    have la : (ci (left.take k)).length = k := by rw [ci_len, List.length_take]; omega
    have lb : (ci (left.drop (k + 1))).length = d - k := by rw [ci_len, List.length_drop]; omega
    have hd := delete_c ([W, ⟨bys bs, true⟩, ⟨ints (ci left) ++ Z, true⟩] ++ GM (ci (out ++ [left.getD k 0]))) 2 (ci (left.take k)) (ci (left.drop (k + 1))) ((left[k] : Nat) : Int) Z n n (by rw [← el]; rfl) (by omega) (by omega) (by omega)
    rw [la, lb, show k + 1 + (d - k) = d + 1 by omega, show k + (d - k) = d by omega] at hd
    have ee : ints (ci (left.take k) ++ ci (left.drop (k + 1))) = ints (ci (left.eraseIdx k)) := by rw [List.eraseIdx_eq_take_drop_succ]; simp
    rw [ee] at hd
    simp only [List.cons_append, List.nil_append, List.set_cons_succ, List.set_cons_zero] at hd
    obtain ⟨Z', ih⟩ := ih (i + 1) (left.eraseIdx k) (out ++ [left.getD k 0]) (.int .i64 0 :: Z) (by omega) (by rw [List.length_eraseIdx, if_pos hk]; omega) (by simp; omega) (by simp; omega)
    refine ⟨Z', ?_⟩
    simp only [List.cons_append, List.nil_append] at ih ha ⊢
    rw [law04_RingNamed.L1_eq]
    generalize out ++ [left.getD k 0] = out' at *
    generalize GM (ci out') = gm' at *
    generalize GV 3 (ci out') = gv' at *
    simp only [List.length_cons, List.length_nil, Nat.zero_add, Nat.reduceAdd] at ha
    simp only [law04_RingNamed.B1, law04_RingNamed.B1.R0, law04_RingNamed.B1.R1, exF_seq, exF_region, exF_block, exF_cond, exF_skip, runL, wantL, stepL, evL, evC, LEnv.at, putL, loadFine, loadL, cellsAt, Trk.putNew, Trk.up, Trk.touch, Trk.gives, Trk.calm, Trk.hit, opdsOf, Trk.fresh, LEnv.keep, List.map_cons, List.map_nil, nbeq, nble, nblt, ofAV, ofAVs, lenL, bin_add, bin_lss, natL_nat, List.any_cons, List.any_nil, Bool.or_false, Bool.or_true, Bool.and_true, Bool.false_and, Bool.not_true, Bool.not_false, Nat.reduceEqDiff, decide_true, decide_false, cond_true, cond_false, List.filter_nil, Nat.reduceAdd, Nat.reduceLeDiff, reduceCtorEq, List.length_nil, List.length_cons, Nat.mul_one, eq_self, List.append_nil, List.nil_append, LV.pures, LV.pure, freeze, Nat.reduceDiv, LV.cells, List.getElem?_cons_zero, List.getElem?_cons_succ, spliceL, List.take_zero, List.take_succ_cons, List.drop_succ_cons, List.drop_nil, List.take_nil, Nat.le_refl, fillL, show ((i : Int) < (n : Int)) by omega, show i < 6 by omega, hbl, hat, hw, hrem, show k < d + 1 by omega, hll, hcell, Nat.zero_add, ha, views, viewL, hd, wrap_succ (show k + 1 < 9223372036854775808 by omega), wrap_succ (show i + 1 < 9223372036854775808 by omega), ih]
def turnK (σ : Nat → Nat) (P : List (Nat × Nat)) (t k : Nat) : List (Nat × Nat) := (List.range k).map fun i => (σ (st P ((i + t) % P.length)), σ (en P ((i + t) % P.length)))
theorem named2 {n : Nat} {P : List (Nat × Nat)} (G : Good n P) (nl ex : Bool) (sz : Nat) (to : List Nat) (hto : to.length = n) (t : Nat) (ht : t < 256) (j : Nat) : ∀ (i : Nat) (M : LMem) (v : LV), i + j = P.length → M[3]? = some ⟨ints (ci to), true⟩ → Lst M v 2 i (Pcs (turnK (fun x => to.getD x 0) P t i)) → ¬ isBlk v 3 →
    ∃ v' M', exF LP law04_RingNamed.L2 [(2, .int .u8 (t : Int)), (7, .int .i64 (n : Int)), (8, FN nl ex sz P), (10, .sl 3 0 n n 1 1 n), (14, v), (70, .int .i64 (P.length : Int)), (71, .int .i64 (i : Int))] M =
      some (.exit 4, [(7, .int .i64 (n : Int)), (8, FN nl ex sz P), (10, .sl 3 0 n n 1 1 n), (14, v')], M') ∧ Lst M' v' 2 P.length (Pcs (turnP (fun x => to.getD x 0) P t)) ∧ M'[3]? = some ⟨ints (ci to), true⟩ ∧ ¬ isBlk v' 3 := by
  have h12 := G.le12
  induction j with
  | zero =>
    intro i M v hi h3 hL hb
    obtain rfl : i = P.length := by omega
    refine ⟨v, M, ?_, hL, h3, hb⟩
    rw [law04_RingNamed.L2_eq]
    simp only [law04_RingNamed.B2, exF_seq, exF_region, exF_cond, exF_exit, runL, wantL, stepL, evL, LEnv.at, putL, loadFine, LEnv.keep, List.map_cons, List.map_nil, nbeq, bin_lss, Nat.reduceEqDiff, decide_true, decide_false, cond_true, cond_false, eq_self, Int.lt_irrefl]
  | succ j ih =>
    intro i M v hi h3 hL hb
    have h2 : i < P.length := by omega
    have hii : (i : Int) < (P.length : Int) := by omega
    have hw := wrap_succ (show i + 1 < 9223372036854775808 by omega)
    have hm : (i + t) % P.length < P.length := Nat.mod_lt _ (by omega)
    have hct := conv8 ht
    have hadd : IntKind.i64.wrap ((i : Int) + (t : Int)) = ((i + t : Nat) : Int) := by rw [wrap_in (by omega)]; omega
    have hrem : binL .rem (.int .i64 ((i + t : Nat) : Int)) (.int .i64 (P.length : Int)) = some (.int .i64 (((i + t) % P.length : Nat) : Int)) := by
      rw [bin_rem (k := .i64) (a := ((i + t : Nat) : Int)) (b := (P.length : Int)) (show (P.length : Int) ≠ 0 by omega), tmod_nat]
    have hsn : turnK (fun x => to.getD x 0) P t (i + 1) = turnK (fun x => to.getD x 0) P t i ++ [(to.getD (st P ((i + t) % P.length)) 0, to.getD (en P ((i + t) % P.length)) 0)] := by simp [turnK, List.range_succ]
    generalize (i + t) % P.length = q at *
    have seg := pcSE P q hm
    have ok := pcN_ok P q hm
    obtain ⟨s1, s2, _⟩ := st_lt G hm
    have hat : ∀ x, x < n → (ints (ci to))[x]? = some (.int .i64 ((to.getD x 0 : Nat) : Int)) := fun x hx => by
      rw [getD_at to x 0 (by omega), List.getElem?_map, List.getElem?_map, List.getElem?_eq_getElem (by omega)]; rfl
    have a1 := hat _ s1
    have a2 := hat _ s2
    have hlt : (ints (ci to)).length = n := by simp [hto]
    have hM := get_lt h3
    let pr : LBlk := ⟨[.int .i64 ((st P q : Nat) : Int), .int .i64 ((en P q : Nat) : Int)], true⟩
    have h3' : (M ++ [pr])[3]? = some ⟨ints (ci to), true⟩ := by rw [List.getElem?_append_left hM]; exact h3
    have hL1 : Lst (M ++ [pr]) v 2 i (Pcs (turnK (fun x => to.getD x 0) P t i)) := hL.mono fun b hb => by rw [List.getElem?_append_left (hL.lt b hb)]
    obtain ⟨v3, m3, hap, hL3, hk3, hlen3, hb3⟩ := hL1.append (x := .lst false true 2 1 [.int .i64 ((to.getD (st P q) 0 : Nat) : Int), .int .i64 ((to.getD (en P q) 0 : Nat) : Int)]) (k := 1) (news := [.int .i64 ((to.getD (st P q) 0 : Nat) : Int), .int .i64 ((to.getD (en P q) 0 : Nat) : Int)]) (bytes := 16) (by simp [contents, nbeq]) rfl (by omega) (by omega) rfl
    have hL3 : Lst m3 v3 2 (i + 1) (Pcs (turnK (fun x => to.getD x 0) P t (i + 1))) := by
      have e := Pcs_snoc (turnK (fun x => to.getD x 0) P t i) (to.getD (st P q) 0) (to.getD (en P q) 0)
      rw [hsn, e]; exact hL3
    obtain ⟨v', M', hex, hL', h4, h5⟩ := ih (i + 1) m3 v3 (by omega) (by rw [hk3 3 (by simp; omega) hb]; exact h3') hL3 (fun h => by
      rcases hb3 3 h with h | h
      · exact hb h
      · simp at h; omega)
    refine ⟨v', M', ?_, hL', h4, h5⟩
    rw [law04_RingNamed.L2_eq]
    simp only [pr] at hap h3'
    generalize to.getD (st P q) 0 = y1 at *
    generalize to.getD (en P q) 0 = y2 at *
    generalize ints (ci to) = TO at *
    simp only [FN_eq] at hex ⊢
    simp only [law04_RingNamed.B2, law04_RingNamed.B2.R0, law04_RingNamed.B2.R1, exF_seq, exF_region, exF_block, exF_cond, exF_skip, runL, wantL, stepL, evL, evC, LEnv.at, putL, loadFine, loadL, cellsAt, Trk.putNew, Trk.up, Trk.touch, Trk.gives, Trk.calm, Trk.hit, opdsOf, Trk.fresh, LEnv.keep, List.map_cons, List.map_nil, nbeq, nble, nblt, ofAV, ofAVs, lenL, bin_add, bin_lss, natL_nat, natL_zero, natL_one, List.any_cons, List.any_nil, Bool.or_false, Bool.or_true, Bool.and_true, Bool.false_and, Bool.not_true, Bool.not_false, Nat.reduceEqDiff, decide_true, decide_false, cond_true, cond_false, List.filter_nil, Nat.reduceAdd, Nat.reduceLeDiff, reduceCtorEq, List.length_nil, List.length_cons, Nat.mul_one, eq_self, List.append_nil, List.nil_append, List.cons_append, views_pures, LV.pures, LV.pure, freeze, Nat.reduceDiv, LV.cells, allocL, List.getElem?_cons_zero, List.getElem?_cons_succ, storeL, spliceL, List.take_zero, List.take_succ_cons, List.drop_zero, List.drop_succ_cons, List.drop_nil, List.take_nil, Nat.le_refl, Nat.reduceMul, LV.scalar, List.all_cons, List.all_nil, Nat.lt_add_one, Nat.reduceLT, fillL, List.length_append, Nat.zero_add, Nat.add_zero, hii, hct, hadd, hrem, hm, seg, ok, set_last, get_last, show ¬ M.length + 1 ≤ M.length by omega, show ¬ M.length + 1 ≤ 3 by omega, h3', hlt, s1, s2, a1, a2, hap, hw, hex]
end Go.Am.Ring

/-
  What functions of chapter 04 compute, 30: all rings, collected; how many rings can still be had, told once each.
-/
set_option linter.unusedVariables false
set_option linter.unusedSimpArgs false
set_option maxRecDepth 10000
namespace Go.Am.Ring
open Go.Am.G

/-! ### All rings are collected -/
def apI (R : List (List Nat)) (O : List Nat) (m : LMem) : Prop :=
  (R = [] ∧ m[0]? = some ⟨[.lst true true 0 0 []], true⟩ ∧ O = [0]) ∨ (R ≠ [] ∧ ∃ b, b ≠ 0 ∧ m[0]? = some ⟨[.sl b 0 R.length R.length 1 1 R.length], true⟩ ∧ m[b]? = some ⟨rows R, true⟩ ∧ O = [0, b])
theorem rows_noRefs (i : Nat) : ∀ R : List (List Nat), LV.noRefs i (rows R) = true
  | [] => rfl
  | a :: R => by simp only [rows, List.map_cons, LV.noRefs, LV.noRef, Bool.true_and]; exact rows_noRefs i R
theorem app_one (m : LMem) (b n bytes : Nat) (cs : List LV) (x y : LV) (h : m[b]? = some ⟨cs, true⟩) (hl : cs.length = n) (hn : 0 < n) (hr1 : (n + 1) * bytes ≤ 140737488355328) (hr2 : n + 1 ≤ 140737488355328) (hx : contents m 1 x = some ([y], 1)) (hy : y.scalar = true) :
    appendL m 1 bytes (.sl b 0 n n 1 1 n) x = some (.sl b 0 (n + 1) (n + 1) 1 1 (n + 1), m.set b ⟨cs ++ [y], true⟩) := by
  have hcs : contents m 1 (.sl b 0 n n 1 1 n) = some (cs, n) := by
    simp only [contents, h]
    simp only [nbeq, nble, hl, Nat.zero_add, Nat.mul_one, Nat.le_refl, decide_true, Bool.and_self, cond_true, List.drop_zero]
    rw [List.take_of_length_le (by omega)]
  have h4 : (Nat.ble ((n + 1) * bytes) roomMost && Nat.ble (n + 1) roomMost && [y].all LV.scalar) = true := by
    simp only [roomMost, nble, List.all_cons, List.all_nil, hy, Bool.and_true, Bool.and_eq_true, decide_eq_true_eq]
    exact ⟨hr1, hr2⟩
  have h5 : Nat.ble (n + 1) n = false := by rw [nble]; simp
  have h6 : Nat.blt n (n + 1) = true := by rw [nblt]; simp
  unfold appendL
  simp only [hcs, hx, h4, h, h5, Nat.mul_one, h6]
  simp [nbeq]
def apVis : RVis (List (List Nat)) 1 where
  I := apI
  vis := fun R r => R ++ [r]
  f := n_ring_Apart_1
  first := []
  cap := [.ptr 0 0 1]
  size := fun R => R.length
  hsz := fun _ _ => by simp
  hI := by
    rintro R O m m' (⟨h0, h1, rfl⟩ | ⟨h0, b, hb, h1, h2, rfl⟩) e
    · exact .inl ⟨h0, by rw [e 0 (by simp)]; exact h1, rfl⟩
    · exact .inr ⟨h0, b, hb, by rw [e 0 (by simp)]; exact h1, by rw [e b (by simp)]; exact h2, rfl⟩
  hlt := by
    rintro R O m (⟨h0, h1, rfl⟩ | ⟨h0, b, hb, h1, h2, rfl⟩) i hi
    · rw [List.mem_singleton.1 hi]; exact get_lt h1
    · simp at hi
      rcases hi with rfl | rfl
      · exact get_lt h1
      · exact get_lt h2
  hT := by
    rintro R O m k (⟨h0, h1, rfl⟩ | ⟨h0, b, hb0, h1, h2, rfl⟩) hk hb i hi
    · rw [List.mem_singleton.1 hi]; omega
    · simp at hi
      rcases hi with rfl | rfl
      · omega
      · unfold belowM at hb
        rw [List.all_eq_true] at hb
        have := hb ⟨[.sl i 0 R.length R.length 1 1 R.length], true⟩ (by
          have g : (m.take k)[0]? = m[0]? := by rw [List.getElem?_take, if_pos (by omega)]
          rw [h1] at g
          exact List.mem_of_getElem? g)
        simpa only [LV.unders, LV.under, Bool.and_true, nblt, decide_eq_true_eq] using this
  hvis := by
    intro R O m r h hr h6 hsz hN hC
    have hl0 : (0 : Nat) < m.length := by omega
    have hcl := ci_len r
    have hcr : ci r ≠ [] := fun h => hr (ci_nil.1 h)
    let fb : LBlk := ⟨ints (ci r), false⟩
    have hL : (m ++ [(⟨ints (ci r), true⟩ : LBlk)]).length = m.length + 1 := by simp
    have up : ∀ {i : Nat} {b : LBlk}, m[i]? = some b → (m ++ [fb])[i]? = some b := fun h => by rw [List.getElem?_append_left (get_lt h)]; exact h
    have up1 : ∀ {i : Nat} {b : LBlk}, m[i]? = some b → (m ++ [(⟨ints (ci r), true⟩ : LBlk)])[i]? = some b := fun h => by rw [List.getElem?_append_left (get_lt h)]; exact h
    have hv : views (m ++ [(⟨ints (ci r), true⟩ : LBlk)]) [.sl m.length 0 r.length r.length 1 1 r.length] = some ([.lst false false 1 r.length (ints (ci r))], [m.length]) := by
      have := views_one 92 (m ++ [(⟨ints (ci r), true⟩ : LBlk)]) (.sl m.length 0 r.length r.length 1 1 r.length) (IL false false 1 (ci r)) [m.length] (fun k => by
        have := view_sl k (m ++ [(⟨ints (ci r), true⟩ : LBlk)]) m.length 0 r.length r.length 1 (ci r) true (get_last _ _) (by simp) (by omega) r.length (Nat.le_refl _)
        rw [List.drop_zero, List.take_of_length_le (by simp)] at this
        exact this) rfl
      simp only [IL, hcl] at this
      exact this
    have hfz : freeze [m.length] (m ++ [(⟨ints (ci r), true⟩ : LBlk)]) = m ++ [fb] := by
      simp only [freeze, freeze1, get_last, set_last, fb]
    have hrow : (LV.lst false false 1 r.length (ints (ci r))) = rlv (ci r) := by simp only [rlv, IL, hcl]
    have hcall : ∀ (M : LMem), retL ring_Apart_1.results (exF LP ring_Apart_1.body (LEnv.ofFrom 0 [.sl m.length 0 r.length r.length 1 1 r.length, .ptr 0 0 1]) (m ++ [(⟨ints (ci r), true⟩ : LBlk)])) = some (.bool true, M) → (M.length = m.length + 1 ∨ ∃ v : LBlk, v ∈ M.take (m.length + 1) ∧ LV.unders (m.length + 1) v.cells = false) → clF LP n_ring_Apart_1 [.sl m.length 0 r.length r.length 1 1 r.length, .ptr 0 0 1] (m ++ [(⟨ints (ci r), true⟩ : LBlk)]) = some (.W, .bool true, M) := fun M h hM => by
      have := call_W lp_ring_Apart_1 rfl h
      rw [this, hL]
      rcases hM with hM | ⟨v, hv, hu⟩
      · rw [trim_le _ _ _ (by omega)]
      · rcases trim_or (m.length + 1) [LV.bool true] M with e | ⟨e, hb⟩
        · rw [e]
        · exfalso
          unfold belowM at hb
          rw [List.all_eq_true] at hb
          rw [hb v hv] at hu; cases hu
    have hcon1 : ∀ M : LMem, contents M 1 (.lst false true 1 1 [.lst false false 1 r.length (ints (ci r))]) = some ([.lst false false 1 r.length (ints (ci r))], 1) := fun M => rfl
    rcases h with ⟨rfl, h1, rfl⟩ | ⟨h0, b, hb0, h1, h2, rfl⟩
    · have h1' := up h1
      have h1'' := up1 h1
      have hap : appendL (m ++ [fb]) 1 24 (.lst true true 0 0 []) (.lst false true 1 1 [.lst false false 1 r.length (ints (ci r))]) = some (.sl (m.length + 1) 0 1 1 1 1 1, m ++ [fb] ++ [(⟨rows [r], true⟩ : LBlk)]) := by
        simp only [appendL, hcon1]
        simp [contents, newSl, LV.scalar, roomMost, nbeq, nble]
      have g0 : (m ++ [fb] ++ [(⟨rows [r], true⟩ : LBlk)])[0]? = some ⟨[.lst true true 0 0 []], true⟩ := by rw [List.getElem?_append_left (by simp)]; exact h1'
      refine ⟨(m ++ [fb] ++ [(⟨rows [r], true⟩ : LBlk)]).set 0 ⟨[.sl (m.length + 1) 0 1 1 1 1 1], true⟩, [0, m.length + 1], ?_, ?_, ?_, fun i hi => by simp at hi ⊢; omega⟩
      · refine hcall _ ?_ (.inr ⟨⟨[.sl (m.length + 1) 0 1 1 1 1 1], true⟩, ?_, ?_⟩)
        · generalize hM1 : m ++ [(⟨ints (ci r), true⟩ : LBlk)] = M1 at *
          generalize hM2 : m ++ [fb] = M2 at *
          generalize ints (ci r) = row at *
          generalize hM3 : M2 ++ [(⟨rows [r], true⟩ : LBlk)] = M3 at *
          simp only [ring_Apart_1, ring_Apart_1.B, exF_seq, exF_region, exF_ret, runL, wantL, stepL, evL, evC, LEnv.at, putL, loadFine, loadL, cellsAt, Trk.calm, Trk.hit, LEnv.keep, LEnv.ofFrom, List.map_cons, List.map_nil, nbeq, nble, ofAV, ofAVs, List.any_nil, Bool.or_false, Bool.false_or, Bool.true_or, Bool.and_true, Nat.reduceEqDiff, decide_true, decide_false, cond_true, cond_false, Nat.reduceAdd, Nat.reduceLeDiff, reduceCtorEq, List.length_nil, List.length_cons, Nat.mul_one, eq_self, retL, resultsL, resAllL, resOfL, List.append_nil, List.nil_append, Nat.reduceDiv, List.getElem?_cons_zero, storeL, spliceL, List.take_zero, List.take_succ_cons, List.drop_zero, List.drop_succ_cons, List.drop_nil, List.take_nil, Nat.le_refl, List.all_cons, List.all_nil, fillL, h1'', hv, hfz, hap, g0, LV.cells, LV.scalar]
        · have : (((m ++ [fb] ++ [(⟨rows [r], true⟩ : LBlk)]).set 0 ⟨[.sl (m.length + 1) 0 1 1 1 1 1], true⟩).take (m.length + 1))[0]? = some ⟨[.sl (m.length + 1) 0 1 1 1 1 1], true⟩ := by
            rw [List.getElem?_take, if_pos (by omega), List.getElem?_set_self (by simp)]
          exact List.mem_of_getElem? this
        · simp only [LV.unders, LV.under, nblt]; simp
      · refine .inr ⟨by simp, m.length + 1, by omega, by rw [List.getElem?_set_self (by simp)]; rfl, ?_, rfl⟩
        rw [List.getElem?_set_ne (by omega)]
        simp
      · refine ⟨by simp, fun i hi hn => ?_, fun i hi hN => ?_, fun hC i hi => ?_⟩
        · have : ¬ 0 = i := fun e => hn (by simp [e])
          rw [List.getElem?_set_ne this, List.append_assoc, List.getElem?_append_left hi]
        · refine NR.set ((hN.app (noRefs_int i _ _)).app (rows_noRefs i _)) ?_
          simp only [LV.noRefs, LV.noRef, nbeq, Bool.and_true, Bool.not_eq_true', decide_eq_false_iff_not]; omega
        · simp at hi
          refine NR.set ((NR.app (hC i (by omega)) (noRefs_int i _ _)).app (rows_noRefs i _)) ?_
          simp only [LV.noRefs, LV.noRef, nbeq, Bool.and_true, Bool.not_eq_true', decide_eq_false_iff_not]; omega
    · have h1' := up h1
      have h1'' := up1 h1
      have h2' := up h2
      have hbl := get_lt h2
      have hRl : 0 < R.length := List.length_pos_iff.2 h0
      have hrl : (rows R).length = R.length := by simp
      have hcs : contents (m ++ [fb]) 1 (.sl b 0 R.length R.length 1 1 R.length) = some (rows R, R.length) := by
        simp only [contents, h2']
        simp only [nbeq, nble, hrl, Nat.zero_add, Nat.mul_one, Nat.le_refl, decide_true, Bool.and_self, cond_true, List.drop_zero]
        rw [List.take_of_length_le (by simp)]
      have hap : appendL (m ++ [fb]) 1 24 (.sl b 0 R.length R.length 1 1 R.length) (.lst false true 1 1 [.lst false false 1 r.length (ints (ci r))]) = some (.sl b 0 (R.length + 1) (R.length + 1) 1 1 (R.length + 1), (m ++ [fb]).set b ⟨rows (R ++ [r]), true⟩) := by
        have e : rows (R ++ [r]) = rows R ++ [.lst false false 1 r.length (ints (ci r))] := by rw [hrow]; simp
        rw [e]
        exact app_one (m ++ [fb]) b R.length 24 (rows R) _ _ h2' hrl hRl (by omega) (by omega) (hcon1 _) rfl
      have g0 : ((m ++ [fb]).set b ⟨rows (R ++ [r]), true⟩)[0]? = some ⟨[.sl b 0 R.length R.length 1 1 R.length], true⟩ := by rw [List.getElem?_set_ne (by omega)]; exact h1'
      refine ⟨((m ++ [fb]).set b ⟨rows (R ++ [r]), true⟩).set 0 ⟨[.sl b 0 (R.length + 1) (R.length + 1) 1 1 (R.length + 1)], true⟩, [0, b], ?_, ?_, ?_, fun i hi => .inl hi⟩
      · refine hcall _ ?_ (.inl (by simp))
        generalize hM1 : m ++ [(⟨ints (ci r), true⟩ : LBlk)] = M1 at *
        generalize hM2 : m ++ [fb] = M2 at *
        generalize ints (ci r) = row at *
        generalize hM3 : M2.set b ⟨rows (R ++ [r]), true⟩ = M3 at *
        simp only [ring_Apart_1, ring_Apart_1.B, exF_seq, exF_region, exF_ret, runL, wantL, stepL, evL, evC, LEnv.at, putL, loadFine, loadL, cellsAt, Trk.calm, Trk.hit, LEnv.keep, LEnv.ofFrom, List.map_cons, List.map_nil, nbeq, nble, ofAV, ofAVs, List.any_nil, Bool.or_false, Bool.false_or, Bool.true_or, Bool.and_true, Nat.reduceEqDiff, decide_true, decide_false, cond_true, cond_false, Nat.reduceAdd, Nat.reduceLeDiff, reduceCtorEq, List.length_nil, List.length_cons, Nat.mul_one, eq_self, retL, resultsL, resAllL, resOfL, List.append_nil, List.nil_append, Nat.reduceDiv, List.getElem?_cons_zero, storeL, spliceL, List.take_zero, List.take_succ_cons, List.drop_zero, List.drop_succ_cons, List.drop_nil, List.take_nil, Nat.le_refl, List.all_cons, List.all_nil, fillL, h1'', hv, hfz, hap, g0, LV.cells, LV.scalar]
      · refine .inr ⟨by simp, b, hb0, by rw [List.getElem?_set_self (by simp)]; simp, ?_, rfl⟩
        rw [List.getElem?_set_ne (by omega), List.getElem?_set_self (by simp; omega)]
      · refine ⟨by simp, fun i hi hn => ?_, fun i hi hN => ?_, fun hC i hi => ?_⟩
        · have e0 : ¬ 0 = i := fun e => hn (by simp [e])
          have eb : ¬ b = i := fun e => hn (by simp [e])
          rw [List.getElem?_set_ne e0, List.getElem?_set_ne eb, List.getElem?_append_left hi]
        · have hbi : b ≠ i := by
            have := hN ⟨[.sl b 0 R.length R.length 1 1 R.length], true⟩ (List.mem_of_getElem? h1)
            simpa only [LV.noRefs, LV.noRef, nbeq, Bool.and_true, Bool.not_eq_true', decide_eq_false_iff_not] using this
          refine NR.set (NR.set (hN.app (noRefs_int i _ _)) (rows_noRefs i _)) ?_
          simp only [LV.noRefs, LV.noRef, nbeq, Bool.and_true, Bool.not_eq_true', decide_eq_false_iff_not]; exact hbi
        · simp at hi
          refine NR.set (NR.set (NR.app (hC i (by omega)) (noRefs_int i _ _)) (rows_noRefs i _)) ?_
          simp only [LV.noRefs, LV.noRef, nbeq, Bool.and_true, Bool.not_eq_true', decide_eq_false_iff_not]; omega
theorem ap_all (R : List (List Nat)) : ∀ (l : List (List Nat)), l.foldl apVis.vis R = R ++ l := by
  intro l
  induction l generalizing R with
  | nil => simp
  | cons a l ih =>
    rw [List.foldl_cons, ih]
    show R ++ [a] ++ l = _
    simp

/-! ### A bit for each find -/
theorem set_loop (nl ex : Bool) (sz : Nat) (r : List Nat) (hr : ∀ i ∈ r, i < 12) (hl : r.length < 1000) (n : Nat) : ∀ k, k + n = r.length →
    exF LP ring_set.L0 [(3, .int .i64 ((setB (r.take k) : Nat) : Int)), (6, .lst nl ex sz r.length (ints (ci r))), (7, .int .i64 (r.length : Int)), (8, .int .i64 (k : Int))] [] = some (.exit 0, [(3, .int .i64 ((setB r : Nat) : Int))], []) := by
  induction n with
  | zero =>
    intro k hk
    rw [ring_set.L0_eq, List.take_of_length_le (by omega)]
    simp only [ring_set.B0, exF_seq, exF_region, exF_cond, exF_exit, runL, wantL, stepL, evL, LEnv.at, putL, loadFine, LEnv.keep, List.map_cons, List.map_nil, nbeq, bin_lss, Nat.reduceEqDiff, decide_true, decide_false, cond_true, cond_false, eq_self, show ¬ ((k : Int) < (r.length : Int)) by omega]
  | succ n ih =>
    intro k hk
    have h2 : k < r.length := by omega
    have ih := ih (k + 1) (by omega)
    rw [take_snoc r k h2, setB_snoc] at ih
    have hat : (ci r).map (LV.int .i64) = r.map fun y : Nat => LV.int .i64 (y : Int) := by simp
    have b0 := nat_at .i64 r k h2
    rw [← hat] at b0
    have hi := hr _ (List.getElem_mem h2)
    have hshl := sshl (show r[k] < 32 by omega)
    have hlt := setB_lt (n := 12) (r := r.take k) (fun i hi => hr i (List.mem_of_mem_take hi))
    have hpw : 2 ^ r[k] < 2 ^ 12 := Nat.pow_lt_pow_right (by omega) hi
    have hor := sor (a := setB (r.take k)) (b := 2 ^ r[k]) (by omega) (by omega)
    rw [ring_set.L0_eq]
    simp only [ints] at ih ⊢
    generalize (ci r).map (LV.int .i64) = row at *
    simp only [ring_set.B0, exF_seq, exF_region, exF_block, exF_cond, exF_skip, runL, wantL, stepL, evL, evC, LEnv.at, putL, loadFine, loadL, cellsAt, Trk.putNew, Trk.up, Trk.touch, Trk.gives, Trk.calm, opdsOf, Trk.fresh, LEnv.keep, List.map_cons, List.map_nil, nbeq, nble, nblt, bin_add, bin_lss, natL_nat, List.any_cons, List.any_nil, Bool.or_false, Bool.or_true, Bool.and_true, Bool.false_and, Bool.not_true, Bool.not_false, Nat.reduceEqDiff, decide_true, decide_false, cond_true, cond_false, List.filter_nil, Nat.reduceAdd, Nat.reduceLeDiff, List.length_nil, Nat.mul_one, eq_self, show ((k : Int) < (r.length : Int)) by omega, h2, b0, hshl, hor, wrap_succ (show k + 1 < 9223372036854775808 by omega), ih]
theorem set_c (nl ex : Bool) (sz : Nat) (r : List Nat) (hr : ∀ i ∈ r, i < 12) (hl : r.length < 1000) (m : LMem) : clF LP n_ring_set [.lst nl ex sz r.length (ints (ci r))] m = some (.P, .int .i64 ((setB r : Nat) : Int), m) := by
  refine call_P lp_ring_set rfl (by simp [LV.pures, LV.pure]) (m1 := []) ?_ rfl m
  have h := set_loop nl ex sz r hr hl r.length 0 (by omega)
  have h0 : ((setB (r.take 0) : Nat) : Int) = 0 := rfl
  rw [h0] at h
  simp only [Int.natCast_zero] at h
  simp only [ring_set, ring_set.B, exF_seq, exF_region, exF_block, exF_ret, runL, wantL, stepL, evL, evC, LEnv.at, putL, loadFine, LEnv.keep, LEnv.ofFrom, List.map_cons, List.map_nil, nbeq, lenL, Nat.reduceEqDiff, decide_true, decide_false, cond_true, cond_false, reduceCtorEq, eq_self, retL, resultsL, resAllL, resOfL, h]
end Go.Am.Ring

/-
  What functions of chapter 04 compute, 31: the most rings apart, of the program.
-/
set_option linter.unusedVariables false
set_option linter.unusedSimpArgs false
set_option maxRecDepth 10000
namespace Go.Am.Ring
open Go.Am.G

/-! ### A map from numbers to numbers, each of them right -/
def GoodE (f : Nat → Nat) (E : List (Nat × LV)) : Prop := ∀ e ∈ E, e.2 = .int .i64 ((f e.1 : Nat) : Int)
theorem key_or (x : Nat) : ∀ E : List (Nat × LV), (∀ e ∈ E, e.1 ≠ x) ∨ ∃ A w B, E = A ++ (x, w) :: B ∧ ∀ e ∈ A, e.1 ≠ x
  | [] => .inl (by simp)
  | (a, w) :: E => by
    by_cases c : a = x
    · subst c
      exact .inr ⟨[], w, E, rfl, by simp⟩
    · rcases key_or x E with h | ⟨A, w', B, rfl, h⟩
      · exact .inl fun e he => by
          rcases List.mem_cons.1 he with rfl | he
          · exact c
          · exact h e he
      · exact .inr ⟨(a, w) :: A, w', B, rfl, fun e he => by
          rcases List.mem_cons.1 he with rfl | he
          · exact c
          · exact h e he⟩
theorem goodE_look {f : Nat → Nat} {E : List (Nat × LV)} (hE : GoodE f E) (x : Nat) : findML (.int .i64 (x : Int)) (entM E) 0 = some none ∨ ∃ j, findML (.int .i64 (x : Int)) (entM E) 0 = some (some (j, .int .i64 ((f x : Nat) : Int))) := by
  rcases key_or x E with h | ⟨A, w, B, rfl, h⟩
  · exact .inl (find_none x E 0 h)
  · have := hE (x, w) (by simp)
    simp only at this
    subst this
    exact .inr ⟨_, find_some x _ B A 0 h⟩
theorem goodE_put {f : Nat → Nat} {E : List (Nat × LV)} (hE : GoodE f E) (x : Nat) {m : LMem} {ik : Nat} (hm : m[ik]? = some ⟨[.ents (entM E)], true⟩) : ∃ E', putML m (.map ik) (.int .i64 (x : Int)) (.int .i64 ((f x : Nat) : Int)) = some (m.set ik ⟨[.ents (entM E')], true⟩) ∧ GoodE f E' := by
  rcases key_or x E with h | ⟨A, w, B, rfl, h⟩
  · refine ⟨E ++ [(x, .int .i64 ((f x : Nat) : Int))], ?_, ?_⟩
    · simp only [putML, LV.isInt, cond_true, hm, find_none x E 0 h, entM_snoc]
    · intro e he
      rcases List.mem_append.1 he with h | h
      · exact hE e h
      · rw [List.mem_singleton.1 h]
  · refine ⟨A ++ (x, .int .i64 ((f x : Nat) : Int)) :: B, ?_, ?_⟩
    · have h1 := find_some x w B A 0 h
      have h2 := entM_set x w (.int .i64 ((f x : Nat) : Int)) B A
      simp only [putML, LV.isInt, cond_true, hm, h1, h2]
    · intro e he
      rcases List.mem_append.1 he with h | h
      · exact hE e (by simp [h])
      · rcases List.mem_cons.1 h with rfl | h
        · rfl
        · exact hE e (by simp [h])

/-! ### How many rings can still be had -/
/-- The list of all rings, as a value. -/
def RowV (m : LMem) (v : LV) (ik : Nat) (R : List (List Nat)) : Prop := (R = [] ∧ v = .lst true true 0 0 []) ∨ ∃ b, b < ik ∧ v = .sl b 0 R.length R.length 1 1 R.length ∧ m[b]? = some ⟨rows R, true⟩
structure MA (R : List (List Nat)) (v : LV) (ik : Nat) (m : LMem) : Prop where
  pos : 0 < ik
  c0 : m[0]? = some ⟨[v], true⟩
  rv : RowV m v ik R
  cm : m[ik + 1]? = some ⟨[.map ik], true⟩
  cf : m[ik + 2]? = some ⟨[.func n_ring_Apart_2 [] [.ptr (ik + 1) 0 1, .ptr 0 0 1, .ptr (ik + 2) 0 1]], true⟩
theorem MA.mono {R : List (List Nat)} {v : LV} {ik : Nat} {m m' : LMem} (h : MA R v ik m) (e : ∀ i, i < ik + 3 → i ≠ ik → m'[i]? = m[i]?) : MA R v ik m' := by
  have := h.pos
  refine ⟨h.pos, by rw [e 0 (by omega) (by omega)]; exact h.c0, ?_, by rw [e _ (by omega) (by omega)]; exact h.cm, by rw [e _ (by omega) (by omega)]; exact h.cf⟩
  rcases h.rv with h | ⟨b, h1, h2, h3⟩
  · exact .inl h
  · exact .inr ⟨b, h1, h2, by rw [e b (by omega) (by omega)]; exact h3⟩
/-- The memory, with what is known. -/
def mE (m : LMem) (ik : Nat) (E : List (Nat × LV)) : LMem := m.set ik ⟨[.ents (entM E)], true⟩
theorem mE_get {m : LMem} {ik : Nat} {E : List (Nat × LV)} {i : Nat} (h : ¬ ik = i) : (mE m ik E)[i]? = m[i]? := by rw [mE, List.getElem?_set_ne h]
theorem mE_ik {m : LMem} {ik : Nat} {E : List (Nat × LV)} (h : ik < m.length) : (mE m ik E)[ik]? = some ⟨[.ents (entM E)], true⟩ := by rw [mE, List.getElem?_set_self h]
theorem mE_len {m : LMem} {ik : Nat} {E : List (Nat × LV)} : (mE m ik E).length = m.length := by simp [mE]
theorem mE_set {m : LMem} {ik : Nat} {E E' : List (Nat × LV)} : (mE m ik E).set ik ⟨[.ents (entM E')], true⟩ = mE m ik E' := by simp [mE, List.set_set]
def stepN (R : List (List Nat)) (U : Nat) (n : Nat) (r : List Nat) : Nat := if decide (setB r &&& U = 0) = true then (if n < 1 + mU R (U ||| setB r) then 1 + mU R (U ||| setB r) else n) else n
def MostOk (R : List (List Nat)) (ik : Nat) (m : LMem) (U : Nat) : Prop := ∀ E, GoodE (mU R) E → ∃ E', clF LP n_ring_Apart_2 [.int .i64 (U : Int), .ptr (ik + 1) 0 1, .ptr 0 0 1, .ptr (ik + 2) 0 1] (mE m ik E) = some (.W, .int .i64 ((mU R U : Nat) : Int), mE m ik E') ∧ GoodE (mU R) E'
theorem most_loop (R : List (List Nat)) (hR : ∀ r ∈ R, (∀ i ∈ r, i < 12) ∧ r.length < 1000) (hRl : R.length < 1000000000) (v : LV) (ik : Nat) (m : LMem) (M : MA R v ik m) (U : Nat) (hU : U < 4096) (hrec : ∀ r ∈ R, setB r &&& U = 0 → MostOk R ik m (U ||| setB r)) (j : Nat) : ∀ (k n : Nat) (E : List (Nat × LV)), k + j = R.length → n < 1000000001 → GoodE (mU R) E →
    ∃ E', exF LP ring_Apart_2.L0 [(0, .int .i64 (U : Int)), (1, .ptr (ik + 1) 0 1), (3, .ptr (ik + 2) 0 1), (8, .int .i64 (n : Int)), (20, v), (21, .int .i64 (R.length : Int)), (22, .int .i64 (k : Int))] (mE m ik E) = some (.exit 0, [(0, .int .i64 (U : Int)), (1, .ptr (ik + 1) 0 1), (8, .int .i64 (((R.drop k).foldl (stepN R U) n : Nat) : Int))], mE m ik E') ∧ GoodE (mU R) E' := by
  induction j with
  | zero =>
    intro k n E hk _ hE
    refine ⟨E, ?_, hE⟩
    rw [ring_Apart_2.L0_eq, List.drop_eq_nil_of_le (show R.length ≤ k by omega), List.foldl_nil]
    simp only [ring_Apart_2.B0, exF_seq, exF_region, exF_cond, exF_exit, runL, wantL, stepL, evL, LEnv.at, putL, loadFine, LEnv.keep, List.map_cons, List.map_nil, nbeq, bin_lss, Nat.reduceEqDiff, decide_true, decide_false, cond_true, cond_false, reduceCtorEq, eq_self, show ¬ ((k : Int) < (R.length : Int)) by omega]
  | succ j ih =>
    intro k n E hk hn hE
    have h2 : k < R.length := by omega
    have hkk : (k : Int) < (R.length : Int) := by omega
    have hw := wrap_succ (show k + 1 < 9223372036854775808 by omega)
    have hmem : R[k] ∈ R := List.getElem_mem h2
    obtain ⟨hr12, hrl⟩ := hR _ hmem
    have ra := rowN_at R k h2
    have hset := fun M => set_c false false 1 R[k] hr12 hrl M
    have hcl := ci_len R[k]
    have hsb : setB R[k] < 4096 := setB_lt (n := 12) hr12
    have hand := sand (a := setB R[k]) (b := U) (by omega) (by omega)
    have hor := sor (a := U) (b := setB R[k]) (by omega) (by omega)
    have hrow : rlv (ci R[k]) = .lst false false 1 R[k].length (ints (ci R[k])) := by simp only [rlv, IL, hcl]
    rw [hrow] at ra
    obtain ⟨b, hb, hv, hbr⟩ : ∃ b, b < ik ∧ v = .sl b 0 R.length R.length 1 1 R.length ∧ m[b]? = some ⟨rows R, true⟩ := by
      rcases M.rv with ⟨h, _⟩ | h
      · rw [h] at h2; simp at h2
      · exact h
    have hbm : (mE m ik E)[b]? = some ⟨rows R, true⟩ := by rw [mE_get (by omega)]; exact hbr
    have hbl := get_lt hbr
    have hrwl : (rows R).length = R.length := by simp
    have hcf : ∀ E, (mE m ik E)[ik + 2]? = some ⟨[.func n_ring_Apart_2 [] [.ptr (ik + 1) 0 1, .ptr 0 0 1, .ptr (ik + 2) 0 1]], true⟩ := fun E => by rw [mE_get (by omega)]; exact M.cf
    have hfl := get_lt M.cf
    rw [List.drop_eq_getElem_cons h2, List.foldl_cons]
    subst hv
    have hvw : ∀ E, views (mE m ik E) [.lst false false 1 R[k].length (ints (ci R[k]))] = some ([.lst false false 1 R[k].length (ints (ci R[k]))], []) := fun E => views_pures _ _ (by simp [LV.pures, LV.pure])
    by_cases c : setB R[k] &&& U = 0
    · have c' : ((setB R[k] &&& U : Nat) : Int) = 0 := by omega
      obtain ⟨E1, hc, hE1⟩ := hrec _ hmem c E hE
      have hmu := mU_le R (U ||| setB R[k])
      have hw1 : IntKind.i64.wrap (1 + ((mU R (U ||| setB R[k]) : Nat) : Int)) = ((1 + mU R (U ||| setB R[k]) : Nat) : Int) := by rw [wrap_in (by omega)]; omega
      have hst : stepN R U n R[k] = if n < 1 + mU R (U ||| setB R[k]) then 1 + mU R (U ||| setB R[k]) else n := by unfold stepN; rw [if_pos (decide_eq_true c)]
      have hmax : (if ((n : Nat) : Int) < ((1 + mU R (U ||| setB R[k]) : Nat) : Int) then ((1 + mU R (U ||| setB R[k]) : Nat) : Int) else ((n : Nat) : Int)) = ((stepN R U n R[k] : Nat) : Int) := by
        rw [hst]
        by_cases c3 : n < 1 + mU R (U ||| setB R[k])
        · have c4 : ((n : Nat) : Int) < ((1 + mU R (U ||| setB R[k]) : Nat) : Int) := by omega
          rw [if_pos c3, if_pos c4]
        · have c4 : ¬ ((n : Nat) : Int) < ((1 + mU R (U ||| setB R[k]) : Nat) : Int) := by omega
          rw [if_neg c3, if_neg c4]
      have hsn : stepN R U n R[k] < 1000000001 := by
        rw [hst]
        split <;> omega
      obtain ⟨E2, hex, hE2⟩ := ih (k + 1) (stepN R U n R[k]) E1 (by omega) hsn hE1
      refine ⟨E2, ?_, hE2⟩
      generalize ((R.drop (k + 1)).foldl (stepN R U) (stepN R U n R[k]) : Nat) = fin at *
      generalize (stepN R U n R[k] : Nat) = sn at *
      rw [ring_Apart_2.L0_eq]
      generalize hm1 : mE m ik E = m1 at *
      generalize hm2 : mE m ik E1 = m2 at *
      generalize hm3 : mE m ik E2 = m3 at *
      have hcf1 : m1[ik + 2]? = some ⟨[.func n_ring_Apart_2 [] [.ptr (ik + 1) 0 1, .ptr 0 0 1, .ptr (ik + 2) 0 1]], true⟩ := by rw [← hm1]; exact hcf E
      generalize rows R = RR at *
      generalize ints (ci R[k]) = row at *
      generalize R[k].length = rl at *
      generalize setB R[k] = s at *
      simp only [ring_Apart_2.B0, exF_seq, exF_region, exF_block, exF_cond, exF_skip, runL, wantL, stepL, evL, evC, LEnv.at, putL, loadFine, loadL, cellsAt, Trk.putNew, Trk.up, Trk.touch, Trk.gives, Trk.calm, Trk.hit, opdsOf, Trk.fresh, LEnv.keep, List.map_cons, List.map_nil, nbeq, nble, nblt, ofAVs, bin_add, bin_eql, bin_lss, natL_nat, List.any_cons, List.any_nil, Bool.or_false, Bool.false_or, Bool.true_or, Bool.and_true, Nat.reduceEqDiff, decide_true, decide_false, cond_true, cond_false, List.filter_nil, Nat.reduceAdd, Nat.reduceLeDiff, reduceCtorEq, List.length_nil, List.length_cons, Nat.mul_one, eq_self, List.append_nil, List.nil_append, List.cons_append, List.getElem?_cons_zero, List.take_succ_cons, List.drop_zero, List.take_nil, Nat.le_refl, foldIntL, kind_beq, Nat.zero_add, hkk, h2, hbm, hrwl, ra, hset, hand, c', hor, hcf1, hc, hw1, hmax, hw, hex]
    · have c' : ¬ ((setB R[k] &&& U : Nat) : Int) = 0 := by omega
      have hsn : stepN R U n R[k] = n := by rw [stepN, if_neg (by simpa using c)]
      rw [hsn]
      obtain ⟨E2, hex, hE2⟩ := ih (k + 1) n E (by omega) hn hE
      refine ⟨E2, ?_, hE2⟩
      rw [ring_Apart_2.L0_eq]
      generalize hm1 : mE m ik E = m1 at *
      generalize hm3 : mE m ik E2 = m3 at *
      generalize ((R.drop (k + 1)).foldl (stepN R U) n : Nat) = fin at *
      generalize rows R = RR at *
      generalize ints (ci R[k]) = row at *
      generalize R[k].length = rl at *
      generalize setB R[k] = s at *
      simp only [ring_Apart_2.B0, exF_seq, exF_region, exF_block, exF_cond, exF_skip, runL, wantL, stepL, evL, evC, LEnv.at, putL, loadFine, loadL, cellsAt, Trk.putNew, Trk.up, Trk.touch, Trk.gives, Trk.calm, Trk.hit, opdsOf, Trk.fresh, LEnv.keep, List.map_cons, List.map_nil, nbeq, nble, nblt, ofAVs, bin_add, bin_eql, bin_lss, natL_nat, List.any_cons, List.any_nil, Bool.or_false, Bool.false_or, Bool.true_or, Bool.and_true, Nat.reduceEqDiff, decide_true, decide_false, cond_true, cond_false, List.filter_nil, Nat.reduceAdd, Nat.reduceLeDiff, reduceCtorEq, Nat.mul_one, eq_self, List.append_nil, List.nil_append, Nat.zero_add, hkk, h2, hbm, hrwl, ra, hset, hand, c', hw, hex]
theorem most_c (R : List (List Nat)) (hne : ∀ q ∈ R, q ≠ []) (hR : ∀ r ∈ R, (∀ i ∈ r, i < 12) ∧ r.length < 1000) (hRl : R.length < 1000000000) (v : LV) (ik : Nat) (m : LMem) (M : MA R v ik m) : ∀ (d U : Nat), mU R U ≤ d → U < 4096 → MostOk R ik m U := by
  intro d
  induction d with
  | zero =>
    intro U hd hU
    exact go 0 U hU fun r hr hdis => by
      have := mU_step hne hr hdis
      omega
  | succ d ih =>
    intro U hd hU
    exact go d U hU fun r hr hdis => by
      have := mU_step hne hr hdis
      refine ih _ (by omega) ?_
      exact Nat.or_lt_two_pow (n := 12) hU (setB_lt (hR r hr).1)
where
  go (d U : Nat) (hU : U < 4096) (hrec : ∀ r ∈ R, setB r &&& U = 0 → MostOk R ik m (U ||| setB r)) : MostOk R ik m U := by
    intro E hE
    have hikl : ik < m.length := by have := get_lt M.cm; omega
    have hcm : ∀ E, (mE m ik E)[ik + 1]? = some ⟨[.map ik], true⟩ := fun E => by rw [mE_get (by omega)]; exact M.cm
    have hc0 : ∀ E, (mE m ik E)[0]? = some ⟨[v], true⟩ := fun E => by rw [mE_get (by have := M.pos; omega)]; exact M.c0
    have hend : ∀ E' : List (Nat × LV), trim (mE m ik E).length [.int .i64 ((mU R U : Nat) : Int)] (mE m ik E') = mE m ik E' := fun E' => trim_le _ _ _ (by rw [mE_len, mE_len]; exact Nat.le_refl _)
    rcases goodE_look hE U with hl | ⟨q, hl⟩
    · have hlk : lookL (mE m ik E) true (.int .i64 0) (.map ik) (.int .i64 (U : Int)) = some (.tup [.int .i64 0, .bool false]) := by
        simp only [lookL, LV.isInt, cond_true, entsL, mE_ik hikl, hl]
      obtain ⟨E1, hex, hE1⟩ := most_loop R hR hRl v ik m M U hU hrec R.length 0 0 E (by omega) (by omega) hE
      have hrc := mU_rec hne U
      have hfold : (R.drop 0).foldl (stepN R U) 0 = mU R U := by rw [List.drop_zero]; exact hrc.symm
      rw [hfold] at hex
      obtain ⟨E2, hput, hE2⟩ := goodE_put hE1 U (mE_ik hikl)
      rw [mE_set] at hput
      refine ⟨E2, ?_, hE2⟩
      have hlv : lenL v = some R.length := by
        rcases M.rv with ⟨rfl, rfl⟩ | ⟨b, _, rfl, _⟩ <;> rfl
      rw [← hend E2]
      refine call_W lp_ring_Apart_2 rfl ?_
      simp only [Int.natCast_zero] at hex
      have hcm1 := hcm E
      have hcm2 := hcm E1
      have hc01 := hc0 E
      generalize hm1 : mE m ik E = m1 at *
      generalize hm2 : mE m ik E1 = m2 at *
      generalize hm3 : mE m ik E2 = m3 at *
      generalize (mU R U : Nat) = n at *
      simp only [ring_Apart_2, ring_Apart_2.B, exF_seq, exF_region, exF_block, exF_cond, exF_ret, exF_skip, runL, wantL, stepL, evL, evC, LEnv.at, putL, loadFine, loadL, cellsAt, Trk.calm, Trk.hit, LEnv.keep, LEnv.ofFrom, List.map_cons, List.map_nil, nbeq, nble, ofAV, List.any_nil, Bool.or_false, Bool.false_or, Bool.true_or, Bool.and_true, Nat.reduceEqDiff, decide_true, decide_false, cond_true, cond_false, Nat.reduceAdd, Nat.reduceLeDiff, reduceCtorEq, List.length_nil, List.length_cons, eq_self, retL, resultsL, resAllL, resOfL, List.getElem?_cons_zero, List.getElem?_cons_succ, List.take_succ_cons, List.drop_zero, List.take_nil, Nat.le_refl, hcm1, hlk, hc01, hlv, hex, hcm2, hput]
    · have hlk : lookL (mE m ik E) true (.int .i64 0) (.map ik) (.int .i64 (U : Int)) = some (.tup [.int .i64 ((mU R U : Nat) : Int), .bool true]) := by
        simp only [lookL, LV.isInt, cond_true, entsL, mE_ik hikl, hl]
      refine ⟨E, ?_, hE⟩
      have hcm1 := hcm E
      refine (call_W (v := .int .i64 ((mU R U : Nat) : Int)) (m1 := mE m ik E) lp_ring_Apart_2 rfl ?_).trans (by rw [hend E])
      generalize hm1 : mE m ik E = m1 at *
      generalize (mU R U : Nat) = n at *
      simp only [ring_Apart_2, ring_Apart_2.B, exF_seq, exF_region, exF_cond, exF_ret, runL, wantL, stepL, evL, evC, LEnv.at, putL, loadFine, loadL, cellsAt, Trk.calm, Trk.hit, LEnv.keep, LEnv.ofFrom, List.map_cons, List.map_nil, nbeq, nble, ofAV, List.any_nil, Bool.or_false, Bool.false_or, Bool.true_or, Bool.and_true, Nat.reduceEqDiff, decide_true, decide_false, cond_true, cond_false, Nat.reduceAdd, Nat.reduceLeDiff, reduceCtorEq, List.length_nil, List.length_cons, eq_self, retL, resultsL, resAllL, resOfL, List.getElem?_cons_zero, List.getElem?_cons_succ, List.take_succ_cons, List.drop_zero, List.take_nil, Nat.le_refl, hcm1, hlk]
end Go.Am.Ring


