/-
  What functions of chapter 13 compute, 3: how many rings of each length; the reference's rings.
-/
import Derived.Test.YtgogknjedpmcgaaWashC2
import Derived.Test.YtgogknjedpmcgaaWashP1
set_option linter.unusedVariables false
set_option linter.unusedSimpArgs false
set_option maxRecDepth 10000
namespace Go.Am.Wash
open Go.Am.G

/-! ### Kinds -/
def kStep (K : List Nat) (l : List Nat) : List Nat := K.set l.length (nth K l.length + 1)
def kF : List Nat → List (List Nat) → List Nat
  | K, [] => K
  | K, l :: r => kF (kStep K l) r
def kindL (R : List (List Nat)) : List Nat := kF [0, 0, 0, 0, 0, 0, 0, 0] R
theorem kStep_len (K l : List Nat) : (kStep K l).length = K.length := by simp [kStep]
theorem kF_len : ∀ (R : List (List Nat)) (K : List Nat), (kF K R).length = K.length
  | [], _ => rfl
  | l :: r, K => by rw [kF, kF_len r, kStep_len]
def cnt (R : List (List Nat)) (x : Nat) : Nat := (R.filter fun l => decide (l.length = x)).length
theorem kF_at : ∀ (R : List (List Nat)) (K : List Nat), K.length = 8 → (∀ l ∈ R, l.length < 8) → ∀ x, x < 8 → nth (kF K R) x = nth K x + cnt R x
  | [], K, _, _, x, _ => rfl
  | l :: r, K, hK, h, x, hx => by
    have hl := h l (by simp)
    rw [kF, kF_at r (kStep K l) (by rw [kStep_len, hK]) (fun y hy => h y (by simp [hy])) x hx]
    simp only [nth_getD, kStep, cnt, List.filter_cons]
    by_cases c : l.length = x
    · subst c
      simp [List.getD_eq_getElem?_getD, List.getElem?_set, hK, hl, nth_getD]
      omega
    · simp [List.getD_eq_getElem?_getD, List.getElem?_set, c]
theorem kindL_at (R : List (List Nat)) (h : ∀ l ∈ R, l.length < 8) (x : Nat) (hx : x < 8) : nth (kindL R) x = cnt R x := by
  rw [kindL, kF_at R _ rfl h x hx]
  have : nth [0, 0, 0, 0, 0, 0, 0, 0] x = 0 := by
    match x, hx with
    | 0, _ | 1, _ | 2, _ | 3, _ | 4, _ | 5, _ | 6, _ | 7, _ => rfl
  omega
theorem kind_loop (a b : Bool) (R : List (List Nat)) (hR : ∀ l ∈ R, l.length < 8) (hlen : R.length ≤ 100) (n : Nat) : ∀ (k : Nat) (K : List Nat), k + n = R.length → K.length = 8 → (∀ x, nth K x ≤ k) →
    exF LP wash_kindOf.L0 [(2, .ptr 0 0 8), (3, .ptr 1 0 8), (7, .lst a b 1 R.length (rowsL R)), (8, .int .i64 (R.length : Int)), (9, .int .i64 (k : Int))] [⟨[.int .i64 0, .int .i64 0, .int .i64 0, .int .i64 0, .int .i64 0, .int .i64 0, .int .i64 0, .int .i64 0], true⟩, ⟨ints (ci K), true⟩] =
      some (.exit 0, [(2, .ptr 0 0 8), (3, .ptr 1 0 8)], [⟨[.int .i64 0, .int .i64 0, .int .i64 0, .int .i64 0, .int .i64 0, .int .i64 0, .int .i64 0, .int .i64 0], true⟩, ⟨ints (ci (kF K (R.drop k))), true⟩]) := by
  induction n with
  | zero =>
    intro k K hk hK hx
    rw [wash_kindOf.L0_eq]
    simp only [wash_kindOf.B0, beqT, beqF, exF_seq, exF_region, exF_block, exF_cond, exF_ret, exF_exit, exF_skip, runL, wantL, stepL, evL, LEnv.at, putL, loadFine, loadL, cellsAt, Trk.putNew, Trk.up, Trk.touch, Trk.gives, Trk.calm, Trk.hit, opdsOf, Trk.fresh, LEnv.keep, LEnv.ofFrom, List.map_cons, List.map_nil, nbeq, nble, nblt, ofAV, ofAVs, lenL, bin_add, bin_sub, bin_mul, bin_eql, bin_neq, bin_lss, bin_leq, bin_gtr, bin_geq, natL_nat, natL_zero, natL_one, natL_two, Nat.zero_mul, List.any_cons, List.any_nil, Bool.or_false, Bool.false_or, Bool.true_or, Bool.or_true, Bool.and_true, Bool.true_and, Bool.and_false, Bool.false_and, Bool.not_true, Bool.not_false, Nat.reduceBEq, Nat.reduceEqDiff, decide_true, decide_false, cond_true, cond_false, List.filter_nil, List.filter_cons, Nat.reduceAdd, Nat.reduceLeDiff, reduceCtorEq, List.length_nil, List.length_cons, Nat.mul_one, if_true, if_false, Bool.false_eq_true, eq_self, and_true, true_and, retL, resultsL, resAllL, resOfL, List.append_nil, List.nil_append, List.cons_append, true_or, or_true, false_or, or_false, false_and, and_false, not_true_eq_false, not_false_eq_true, ne_eq, unL, trim_nil, views_pures, LV.pures, LV.pure, freeze, Nat.reduceDiv, Int.reduceEq, Int.reduceLT, Int.reduceLE, Int.natCast_zero, LV.cells, allocL, List.getElem?_cons_zero, List.getElem?_cons_succ, storeL, spliceL, List.take_zero, List.take_succ_cons, List.drop_zero, List.drop_succ_cons, List.drop_nil, List.take_nil, Nat.le_refl, Nat.reduceMul, List.set_cons_zero, List.set_cons_succ, LV.scalar, List.all_cons, List.all_nil, Nat.lt_add_one, Nat.zero_lt_one, Nat.reduceLT, Nat.lt_irrefl, fillL, List.length_append, foldIntL, kind_beq, pures_int, solids_int, plains_int, unders_int, scalars_int, show ¬ ((k : Int) < (R.length : Int)) by omega, List.drop_eq_nil_of_le (show R.length ≤ k by omega), kF]
  | succ n ih =>
    intro k K hk hK hx
    have h2 : k < R.length := by omega
    have hl := hR _ (List.getElem_mem h2)
    have hlK : R[k].length < K.length := by omega
    have hcl : (ci R[k]).length = R[k].length := by simp
    have hv : K[R[k].length] ≤ k := by have := hx R[k].length; rw [nth_at K _ hlK] at this; exact this
    have hKc : (ints (ci K)).length = 8 := by simp [hK]
    have hat : (ints (ci K))[R[k].length]? = some (.int .i64 ((K[R[k].length] : Nat) : Int)) := by
      rw [ints, ci_map]; exact nat_at _ _ _ hlK
    have hst : (ints (ci K)).take R[k].length ++ [.int .i64 ((K[R[k].length] + 1 : Nat) : Int)] ++ (ints (ci K)).drop (R[k].length + 1) = ints (ci (kStep K R[k])) := by
      have hlc : R[k].length < (ci K).length := by rw [ci_len]; exact hlK
      have := set_int .i64 (ci K) R[k].length ((K[R[k].length] + 1 : Nat) : Int) hlc
      rw [ints, this, kStep, nth_at K _ hlK]
      simp [List.map_set]
    have ih := ih (k + 1) (kStep K R[k]) (by omega) (by rw [kStep_len, hK]) (fun x => by
      have h1 := hx x
      simp only [nth_getD, kStep, List.getD_eq_getElem?_getD, List.getElem?_set] at h1 ⊢
      split
      · rename_i e
        subst e
        simp only [hlK, if_true, Option.getD_some]
        omega
      · omega)
    rw [wash_kindOf.L0_eq, List.drop_eq_getElem_cons h2, kF]
    simp only [wash_kindOf.B0, beqT, beqF, exF_seq, exF_region, exF_block, exF_cond, exF_ret, exF_exit, exF_skip, runL, wantL, stepL, evL, LEnv.at, putL, loadFine, loadL, cellsAt, Trk.putNew, Trk.up, Trk.touch, Trk.gives, Trk.calm, Trk.hit, opdsOf, Trk.fresh, LEnv.keep, LEnv.ofFrom, List.map_cons, List.map_nil, nbeq, nble, nblt, ofAV, ofAVs, lenL, bin_add, bin_sub, bin_mul, bin_eql, bin_neq, bin_lss, bin_leq, bin_gtr, bin_geq, natL_nat, natL_zero, natL_one, natL_two, Nat.zero_mul, List.any_cons, List.any_nil, Bool.or_false, Bool.false_or, Bool.true_or, Bool.or_true, Bool.and_true, Bool.true_and, Bool.and_false, Bool.false_and, Bool.not_true, Bool.not_false, Nat.reduceBEq, Nat.reduceEqDiff, decide_true, decide_false, cond_true, cond_false, List.filter_nil, List.filter_cons, Nat.reduceAdd, Nat.reduceLeDiff, reduceCtorEq, List.length_nil, List.length_cons, Nat.mul_one, if_true, if_false, Bool.false_eq_true, eq_self, and_true, true_and, retL, resultsL, resAllL, resOfL, List.append_nil, List.nil_append, List.cons_append, true_or, or_true, false_or, or_false, false_and, and_false, not_true_eq_false, not_false_eq_true, ne_eq, unL, trim_nil, views_pures, LV.pures, LV.pure, freeze, Nat.reduceDiv, Int.reduceEq, Int.reduceLT, Int.reduceLE, Int.natCast_zero, LV.cells, allocL, List.getElem?_cons_zero, List.getElem?_cons_succ, storeL, spliceL, List.take_zero, List.take_succ_cons, List.drop_zero, List.drop_succ_cons, List.drop_nil, List.take_nil, Nat.le_refl, Nat.reduceMul, List.set_cons_zero, List.set_cons_succ, LV.scalar, List.all_cons, List.all_nil, Nat.lt_add_one, Nat.zero_lt_one, Nat.reduceLT, Nat.lt_irrefl, fillL, List.length_append, foldIntL, kind_beq, pures_int, solids_int, plains_int, unders_int, scalars_int, show ((k : Int) < (R.length : Int)) by omega, h2, rowsL_at _ _ h2, hcl, hl, Nat.zero_add, hKc, hat, wrap_succ (show K[R[k].length] + 1 < 9223372036854775808 by omega), show R[k].length + 1 ≤ 8 by omega, hst, wrap_succ (show k + 1 < 9223372036854775808 by omega), ih]
theorem kind_c (nl ex : Bool) (sz : Nat) (t : List Nat) (h7 : t.length ≤ 7) (hlt : ∀ x ∈ t, x < 7) (R : List (List Nat)) (h : ringsP t = some R) (h0 : R ≠ []) (hR : ∀ l ∈ R, l.length < 8) (hlen : R.length ≤ 100) (m : LMem) : clF LP n_wash_kindOf [IL nl ex sz (ci t)] m = some (.P, .agg (ints (ci (kindL R))), m) := by
  obtain ⟨a, b, hr⟩ := rings_c nl ex sz t h7 hlt R h h0
  have hl := kind_loop a b R hR hlen R.length 0 [0, 0, 0, 0, 0, 0, 0, 0] (by omega) rfl (fun x => by
    have := kindL_at [] (by simp) 
    match x with
    | 0 | 1 | 2 | 3 | 4 | 5 | 6 | 7 => simp [nth]
    | x + 8 => simp [nth])
  have hk : (ints (ci (kindL R))).length = 8 := by simp [kindL, kF_len]
  have hl : exF LP wash_kindOf.L0 [(2, .ptr 0 0 8), (3, .ptr 1 0 8), (7, .lst a b 1 R.length (rowsL R)), (8, .int .i64 (R.length : Int)), (9, .int .i64 0)] [⟨[.int .i64 0, .int .i64 0, .int .i64 0, .int .i64 0, .int .i64 0, .int .i64 0, .int .i64 0, .int .i64 0], true⟩, ⟨[.int .i64 0, .int .i64 0, .int .i64 0, .int .i64 0, .int .i64 0, .int .i64 0, .int .i64 0, .int .i64 0], true⟩] = some (.exit 0, [(2, .ptr 0 0 8), (3, .ptr 1 0 8)], [⟨[.int .i64 0, .int .i64 0, .int .i64 0, .int .i64 0, .int .i64 0, .int .i64 0, .int .i64 0, .int .i64 0], true⟩, ⟨ints (ci (kindL R)), true⟩]) := hl
  have hsc : (ints (ci (kindL R))).all LV.scalar = true := scalars_int _ _
  have htk : (ints (ci (kindL R))).take 8 = ints (ci (kindL R)) := List.take_of_length_le (by omega)
  have hdr : (ints (ci (kindL R))).drop 8 = [] := List.drop_eq_nil_of_le (by omega)
  have hpu : LV.pures (ints (ci (kindL R))) = true := pures_int .i64 (ci (kindL R))
  generalize ints (ci (kindL R)) = w at *
  refine call_P lp_wash_kindOf rfl (by simp [LV.pures, LV.pure]) (m1 := [⟨w, true⟩, ⟨w, true⟩]) ?_ (by simpa [LV.pure] using hpu) m
  simp only [wash_kindOf, wash_kindOf.B, beqT, beqF, exF_seq, exF_region, exF_block, exF_cond, exF_ret, exF_exit, exF_skip, runL, wantL, stepL, evL, LEnv.at, putL, loadFine, loadL, cellsAt, Trk.putNew, Trk.up, Trk.touch, Trk.gives, Trk.calm, Trk.hit, opdsOf, Trk.fresh, LEnv.keep, LEnv.ofFrom, List.map_cons, List.map_nil, nbeq, nble, nblt, ofAV, ofAVs, lenL, bin_add, bin_sub, bin_mul, bin_eql, bin_neq, bin_lss, bin_leq, bin_gtr, bin_geq, natL_nat, natL_zero, natL_one, natL_two, Nat.zero_mul, List.any_cons, List.any_nil, Bool.or_false, Bool.false_or, Bool.true_or, Bool.or_true, Bool.and_true, Bool.true_and, Bool.and_false, Bool.false_and, Bool.not_true, Bool.not_false, Nat.reduceBEq, Nat.reduceEqDiff, decide_true, decide_false, cond_true, cond_false, List.filter_nil, List.filter_cons, Nat.reduceAdd, Nat.reduceLeDiff, reduceCtorEq, List.length_nil, List.length_cons, Nat.mul_one, if_true, if_false, Bool.false_eq_true, eq_self, and_true, true_and, retL, resultsL, resAllL, resOfL, List.append_nil, List.nil_append, List.cons_append, true_or, or_true, false_or, or_false, false_and, and_false, not_true_eq_false, not_false_eq_true, ne_eq, unL, trim_nil, views_pures, LV.pures, LV.pure, freeze, Nat.reduceDiv, Int.reduceEq, Int.reduceLT, Int.reduceLE, Int.natCast_zero, LV.cells, allocL, List.getElem?_cons_zero, List.getElem?_cons_succ, storeL, spliceL, List.take_zero, List.take_succ_cons, List.drop_zero, List.drop_succ_cons, List.drop_nil, List.take_nil, Nat.le_refl, Nat.reduceMul, List.set_cons_zero, List.set_cons_succ, LV.scalar, List.all_cons, List.all_nil, Nat.lt_add_one, Nat.zero_lt_one, Nat.reduceLT, Nat.lt_irrefl, fillL, List.length_append, foldIntL, kind_beq, pures_int, solids_int, plains_int, unders_int, scalars_int, hr, hl, hk, htk, hsc]

end Go.Am.Wash


/-
  What functions of chapter 13 compute, 4: the reference's rings; tides one after the other.
-/
set_option linter.unusedVariables false
set_option linter.unusedSimpArgs false
set_option maxRecDepth 10000
namespace Go.Am.Wash
open Go.Am.G

/-! ### One tide and then another one -/
def thenN (a b : List Nat) : List Nat := a.map (nth b)
end Go.Am.Wash


/-
  Plain: rings, and when all is back, and where things are: all tides are tried by the kernel. No statement of the seat is proved here.
-/
set_option linter.unusedVariables false
set_option linter.unusedSimpArgs false
namespace Go.Am.Wash

def mapN (b : List Nat) : List Nat → List Nat
  | [] => []
  | x :: r => nth b x :: mapN b r
/-- After how many tides all is back. -/
def bkF (t id : List Nat) : Nat → Nat → List Nat → Option Nat
  | 0, _, _ => none
  | f + 1, n, now => cond (eqN now id) (some n) (bkF t id f (n + 1) (mapN t now))
def idN : Nat → Nat → List Nat
  | 0, _ => []
  | n + 1, k => k :: idN n (k + 1)
/-- How many rings have each length. -/
def cntN : List (List Nat) → Nat → Nat
  | [], _ => 0
  | l :: r, x => cond (Nat.beq l.length x) (cntN r x + 1) (cntN r x)
def backL (c : Nat) (m step : Nat) : Nat → Nat → Option Nat
  | 0, _ => none
  | f + 1, n => cond (cond (Nat.beq c 0) true (Nat.beq (n % m) 0)) (some n) (backL c m step f (n + step))
def backA (R : List (List Nat)) : Nat → Nat → Nat → Option Nat
  | 0, _, n => some n
  | f + 1, m, n => match backL (cntN R m) m n 20 n with
    | some n' => backA R f (m + 1) n'
    | none => none
def allB (p : List Nat → Bool) : List (List Nat) → Bool
  | [] => true
  | l :: r => cond (p l) (allB p r) false
def allN (p : Nat → Bool) : List Nat → Bool
  | [] => true
  | x :: r => cond (p x) (allN p r) false
def anyHas : List (List Nat) → Nat → Bool
  | [], _ => false
  | l :: r, x => cond (hasN l x) true (anyHas r x)
def eqO : Option Nat → Nat → Bool
  | some a, b => Nat.beq a b
  | none, _ => false
def chkR (t : List Nat) (R : List (List Nat)) (n : Nat) : Bool :=
  cond (allB (fun l => cond (Nat.blt 0 l.length) (cond (Nat.blt l.length 8) (cond (Nat.beq (n % l.length) 0) (allN (fun x => Nat.blt x t.length) l) false) false) false) R)
    (cond (eqO (backA R 6 2 1) n) (cond (Nat.blt n 100) (allN (anyHas R) (idN t.length 0)) false) false) false
def chkM (t : List Nat) : Bool := match ringsP t with
  | some R => cond (both (some R) (ringsR t)) (cond (Nat.blt 0 R.length) (cond (Nat.blt R.length 8) (match bkF t (idN t.length 0) 20 1 t with
    | some n => chkR t R n
    | none => false) false) false) false
  | none => false
theorem m1 : allP 1 chkM 1 [] = true := by kernel_rfl
theorem m2 : allP 2 chkM 2 [] = true := by kernel_rfl
theorem m3 : allP 3 chkM 3 [] = true := by kernel_rfl
theorem m4 : allP 4 chkM 4 [] = true := by kernel_rfl
theorem m5 : allP 5 chkM 5 [] = true := by kernel_rfl
theorem m6_0 : allP 6 chkM 5 [0] = true := by kernel_rfl
theorem m6_1 : allP 6 chkM 5 [1] = true := by kernel_rfl
theorem m6_2 : allP 6 chkM 5 [2] = true := by kernel_rfl
theorem m6_3 : allP 6 chkM 5 [3] = true := by kernel_rfl
theorem m6_4 : allP 6 chkM 5 [4] = true := by kernel_rfl
theorem m6_5 : allP 6 chkM 5 [5] = true := by kernel_rfl
theorem allP_one (n : Nat) (P : List Nat → Bool) (d : Nat) (b : List Nat) (h : ∀ y, y < n → y ∉ b → allP n P d (b ++ [y]) = true) : allP n P (d + 1) b = true :=
  (allC_iff _ _ _ _).2 fun y _ h2 h3 => h y (by omega) h3
theorem m6 : allP 6 chkM 6 [] = true := allP_one 6 chkM 5 [] fun y hy _ => match y, hy with
  | 0, _ => m6_0 | 1, _ => m6_1 | 2, _ => m6_2 | 3, _ => m6_3 | 4, _ => m6_4 | 5, _ => m6_5
end Go.Am.Wash


/-
  Plain: rings, and when all is back: tides of seven places that begin with 0, 1 are tried by the kernel. No statement of the seat is proved here.
-/
namespace Go.Am.Wash
theorem m7_01 : allP 7 chkM 5 [0, 1] = true := by kernel_rfl
theorem m7_02 : allP 7 chkM 5 [0, 2] = true := by kernel_rfl
theorem m7_03 : allP 7 chkM 5 [0, 3] = true := by kernel_rfl
theorem m7_04 : allP 7 chkM 5 [0, 4] = true := by kernel_rfl
theorem m7_05 : allP 7 chkM 5 [0, 5] = true := by kernel_rfl
theorem m7_06 : allP 7 chkM 5 [0, 6] = true := by kernel_rfl
theorem m7_0 : allP 7 chkM 6 [0] = true := allP_one 7 chkM 5 [0] fun y hy hb => match y, hy, hb with
  | 0, _, hb => absurd (by simp) hb
  | 1, _, _ => m7_01
  | 2, _, _ => m7_02
  | 3, _, _ => m7_03
  | 4, _, _ => m7_04
  | 5, _, _ => m7_05
  | 6, _, _ => m7_06
theorem m7_10 : allP 7 chkM 5 [1, 0] = true := by kernel_rfl
theorem m7_12 : allP 7 chkM 5 [1, 2] = true := by kernel_rfl
theorem m7_13 : allP 7 chkM 5 [1, 3] = true := by kernel_rfl
theorem m7_14 : allP 7 chkM 5 [1, 4] = true := by kernel_rfl
theorem m7_15 : allP 7 chkM 5 [1, 5] = true := by kernel_rfl
theorem m7_16 : allP 7 chkM 5 [1, 6] = true := by kernel_rfl
theorem m7_1 : allP 7 chkM 6 [1] = true := allP_one 7 chkM 5 [1] fun y hy hb => match y, hy, hb with
  | 0, _, _ => m7_10
  | 1, _, hb => absurd (by simp) hb
  | 2, _, _ => m7_12
  | 3, _, _ => m7_13
  | 4, _, _ => m7_14
  | 5, _, _ => m7_15
  | 6, _, _ => m7_16
end Go.Am.Wash


/-
  Plain: rings, and when all is back: tides of seven places that begin with 2, 3 are tried by the kernel. No statement of the seat is proved here.
-/
namespace Go.Am.Wash
theorem m7_20 : allP 7 chkM 5 [2, 0] = true := by kernel_rfl
theorem m7_21 : allP 7 chkM 5 [2, 1] = true := by kernel_rfl
theorem m7_23 : allP 7 chkM 5 [2, 3] = true := by kernel_rfl
theorem m7_24 : allP 7 chkM 5 [2, 4] = true := by kernel_rfl
theorem m7_25 : allP 7 chkM 5 [2, 5] = true := by kernel_rfl
theorem m7_26 : allP 7 chkM 5 [2, 6] = true := by kernel_rfl
theorem m7_2 : allP 7 chkM 6 [2] = true := allP_one 7 chkM 5 [2] fun y hy hb => match y, hy, hb with
  | 0, _, _ => m7_20
  | 1, _, _ => m7_21
  | 2, _, hb => absurd (by simp) hb
  | 3, _, _ => m7_23
  | 4, _, _ => m7_24
  | 5, _, _ => m7_25
  | 6, _, _ => m7_26
theorem m7_30 : allP 7 chkM 5 [3, 0] = true := by kernel_rfl
theorem m7_31 : allP 7 chkM 5 [3, 1] = true := by kernel_rfl
theorem m7_32 : allP 7 chkM 5 [3, 2] = true := by kernel_rfl
theorem m7_34 : allP 7 chkM 5 [3, 4] = true := by kernel_rfl
theorem m7_35 : allP 7 chkM 5 [3, 5] = true := by kernel_rfl
theorem m7_36 : allP 7 chkM 5 [3, 6] = true := by kernel_rfl
theorem m7_3 : allP 7 chkM 6 [3] = true := allP_one 7 chkM 5 [3] fun y hy hb => match y, hy, hb with
  | 0, _, _ => m7_30
  | 1, _, _ => m7_31
  | 2, _, _ => m7_32
  | 3, _, hb => absurd (by simp) hb
  | 4, _, _ => m7_34
  | 5, _, _ => m7_35
  | 6, _, _ => m7_36
end Go.Am.Wash


/-
  Plain: rings, and when all is back: tides of seven places that begin with 4, 5, 6 are tried by the kernel. No statement of the seat is proved here.
-/
namespace Go.Am.Wash
theorem m7_40 : allP 7 chkM 5 [4, 0] = true := by kernel_rfl
theorem m7_41 : allP 7 chkM 5 [4, 1] = true := by kernel_rfl
theorem m7_42 : allP 7 chkM 5 [4, 2] = true := by kernel_rfl
theorem m7_43 : allP 7 chkM 5 [4, 3] = true := by kernel_rfl
theorem m7_45 : allP 7 chkM 5 [4, 5] = true := by kernel_rfl
theorem m7_46 : allP 7 chkM 5 [4, 6] = true := by kernel_rfl
theorem m7_4 : allP 7 chkM 6 [4] = true := allP_one 7 chkM 5 [4] fun y hy hb => match y, hy, hb with
  | 0, _, _ => m7_40
  | 1, _, _ => m7_41
  | 2, _, _ => m7_42
  | 3, _, _ => m7_43
  | 4, _, hb => absurd (by simp) hb
  | 5, _, _ => m7_45
  | 6, _, _ => m7_46
theorem m7_50 : allP 7 chkM 5 [5, 0] = true := by kernel_rfl
theorem m7_51 : allP 7 chkM 5 [5, 1] = true := by kernel_rfl
theorem m7_52 : allP 7 chkM 5 [5, 2] = true := by kernel_rfl
theorem m7_53 : allP 7 chkM 5 [5, 3] = true := by kernel_rfl
theorem m7_54 : allP 7 chkM 5 [5, 4] = true := by kernel_rfl
theorem m7_56 : allP 7 chkM 5 [5, 6] = true := by kernel_rfl
theorem m7_5 : allP 7 chkM 6 [5] = true := allP_one 7 chkM 5 [5] fun y hy hb => match y, hy, hb with
  | 0, _, _ => m7_50
  | 1, _, _ => m7_51
  | 2, _, _ => m7_52
  | 3, _, _ => m7_53
  | 4, _, _ => m7_54
  | 5, _, hb => absurd (by simp) hb
  | 6, _, _ => m7_56
theorem m7_60 : allP 7 chkM 5 [6, 0] = true := by kernel_rfl
theorem m7_61 : allP 7 chkM 5 [6, 1] = true := by kernel_rfl
theorem m7_62 : allP 7 chkM 5 [6, 2] = true := by kernel_rfl
theorem m7_63 : allP 7 chkM 5 [6, 3] = true := by kernel_rfl
theorem m7_64 : allP 7 chkM 5 [6, 4] = true := by kernel_rfl
theorem m7_65 : allP 7 chkM 5 [6, 5] = true := by kernel_rfl
theorem m7_6 : allP 7 chkM 6 [6] = true := allP_one 7 chkM 5 [6] fun y hy hb => match y, hy, hb with
  | 0, _, _ => m7_60
  | 1, _, _ => m7_61
  | 2, _, _ => m7_62
  | 3, _, _ => m7_63
  | 4, _, _ => m7_64
  | 5, _, _ => m7_65
  | 6, _, hb => absurd (by simp) hb
end Go.Am.Wash


/-
  Plain: all tides of at most seven places were tried. No statement of the seat is proved here.
-/
namespace Go.Am.Wash
theorem m7 : allP 7 chkM 7 [] = true := allP_one 7 chkM 6 [] fun y hy _ => match y, hy with
  | 0, _ => m7_0 | 1, _ => m7_1 | 2, _ => m7_2 | 3, _ => m7_3 | 4, _ => m7_4 | 5, _ => m7_5 | 6, _ => m7_6
theorem chk_all {t : List Nat} (h : Tide t.length t) (h1 : 1 ≤ t.length) (h7 : t.length ≤ 7) : chkM t = true := by
  have hm : allP t.length chkM t.length [] = true := by
    match hn : t.length, h1, h7 with
    | 1, _, _ => exact m1
    | 2, _, _ => exact m2
    | 3, _, _ => exact m3
    | 4, _, _ => exact m4
    | 5, _, _ => exact m5
    | 6, _, _ => exact m6
    | 7, _, _ => exact m7
  exact tide_all hm h
end Go.Am.Wash


/-
  Plain: what is known of each tide; where things are after any number of tides. No statement of the seat is proved here.
-/
set_option linter.unusedVariables false
set_option linter.unusedSimpArgs false
namespace Go.Am.Wash

/-- What was found about a tide: its rings, and when all is back. -/
structure Known (t : List Nat) (R : List (List Nat)) (n : Nat) : Prop where
  hp : ringsP t = some R
  hr : ringsR t = some R
  h0 : 0 < R.length
  h8 : R.length < 8
  bk : bkF t (idN t.length 0) 20 1 t = some n
  ba : backA R 6 2 1 = some n
  n100 : n < 100
  rows : ∀ l ∈ R, 0 < l.length ∧ l.length < 8 ∧ n % l.length = 0 ∧ ∀ x ∈ l, x < t.length
  cov : ∀ x, x < t.length → ∃ l ∈ R, x ∈ l
theorem cond_split {a b : Bool} (h : cond a b false = true) : a = true ∧ b = true := by cases a <;> cases b <;> simp_all
theorem allB_iff (p : List Nat → Bool) : ∀ R : List (List Nat), allB p R = true → ∀ l ∈ R, p l = true
  | [], _, l, hl => by cases hl
  | a :: r, h, l, hl => by
    obtain ⟨h1, h2⟩ := cond_split h
    rcases List.mem_cons.1 hl with rfl | hl
    · exact h1
    · exact allB_iff p r h2 l hl
theorem allN_iff (p : Nat → Bool) : ∀ R : List Nat, allN p R = true → ∀ l ∈ R, p l = true
  | [], _, l, hl => by cases hl
  | a :: r, h, l, hl => by
    obtain ⟨h1, h2⟩ := cond_split h
    rcases List.mem_cons.1 hl with rfl | hl
    · exact h1
    · exact allN_iff p r h2 l hl
theorem anyHas_iff : ∀ (R : List (List Nat)) (x : Nat), anyHas R x = true → ∃ l ∈ R, x ∈ l
  | [], x, h => by cases h
  | l :: r, x, h => by
    rw [anyHas] at h
    cases c : hasN l x
    · rw [c, cond_false] at h
      obtain ⟨l', h1, h2⟩ := anyHas_iff r x h
      exact ⟨l', by simp [h1], h2⟩
    · exact ⟨l, by simp, (hasN_iff l x).1 c⟩
theorem idN_eq (n : Nat) : ∀ k, idN n k = List.range' k n := by
  induction n with
  | zero => intro k; rfl
  | succ n ih => intro k; rw [idN, ih, List.range'_succ]
theorem blt_lt {a b : Nat} (h : Nat.blt a b = true) : a < b := by
  have : Nat.ble (a + 1) b = true := h
  rw [Nat.ble_eq] at this; omega
theorem known {t : List Nat} (h : Tide t.length t) (h1 : 1 ≤ t.length) (h7 : t.length ≤ 7) : ∃ R n, Known t R n := by
  have hc := chk_all h h1 h7
  unfold chkM at hc
  cases hp : ringsP t with
  | none => rw [hp] at hc; cases hc
  | some R =>
    rw [hp] at hc
    simp only at hc
    obtain ⟨c1, hc⟩ := cond_split hc
    obtain ⟨c2, hc⟩ := cond_split hc
    obtain ⟨c3, hc⟩ := cond_split hc
    cases hb : bkF t (idN t.length 0) 20 1 t with
    | none => rw [hb] at hc; cases hc
    | some n =>
      rw [hb] at hc
      simp only [chkR] at hc
      obtain ⟨d1, hc⟩ := cond_split hc
      obtain ⟨d2, hc⟩ := cond_split hc
      obtain ⟨d3, d4⟩ := cond_split hc
      have hr : ringsR t = some R := by
        cases hq : ringsR t with
        | none => rw [hq] at c1; cases c1
        | some R' => rw [hq] at c1; rw [eqNN_ok R R' c1]
      have hba : backA R 6 2 1 = some n := by
        cases hq : backA R 6 2 1 with
        | none => rw [hq] at d2; cases d2
        | some n' => rw [hq] at d2; rw [Nat.eq_of_beq_eq_true d2]
      refine ⟨R, n, hp, hr, blt_lt c2, blt_lt c3, hb, hba, blt_lt d3, fun l hl => ?_, fun x hx => ?_⟩
      · have := allB_iff _ R d1 l hl
        obtain ⟨e1, this⟩ := cond_split this
        obtain ⟨e2, this⟩ := cond_split this
        obtain ⟨e3, e4⟩ := cond_split this
        exact ⟨blt_lt e1, blt_lt e2, Nat.eq_of_beq_eq_true e3, fun x hx => blt_lt (allN_iff _ l e4 x hx)⟩
      · exact anyHas_iff R x (allN_iff _ _ d4 x (by rw [idN_eq, List.mem_range']; exact ⟨x, hx, by omega⟩))

/-! ### Where things are -/
def it (t : List Nat) : Nat → Nat → Nat
  | 0, x => x
  | k + 1, x => nth t (it t k x)
theorem it_add (t : List Nat) (a : Nat) : ∀ (b x : Nat), it t (b + a) x = it t b (it t a x)
  | 0, x => by rw [Nat.zero_add]; rfl
  | b + 1, x => by rw [show b + 1 + a = (b + a) + 1 by omega, it, it_add t a b, it]
theorem it_mul (t : List Nat) (m x : Nat) (h : it t m x = x) : ∀ j, it t (j * m) x = x
  | 0 => by rw [Nat.zero_mul]; rfl
  | j + 1 => by rw [Nat.add_mul, Nat.one_mul, it_add, h, it_mul t m x h j]
theorem it_mod (t : List Nat) (m x : Nat) (h : it t m x = x) (k : Nat) : it t (k % m) x = it t k x := by
  have e : k = k % m + (k / m) * m := by rw [Nat.mul_comm]; exact (Nat.mod_add_div k m).symm
  conv => rhs; rw [e, it_add, it_mul t m x h]
def orb (t : List Nat) (p m : Nat) : List Nat := (List.range m).map fun i => it t i p
theorem orb_succ (t : List Nat) (p m : Nat) : orb t p (m + 1) = orb t p m ++ [it t m p] := by simp [orb, List.range_succ]
theorem orb_len (t : List Nat) (p m : Nat) : (orb t p m).length = m := by simp [orb]
theorem orb_at (t : List Nat) (p m i : Nat) (h : i < m) : nth (orb t p m) i = it t i p := by rw [nth_getD, orb, List.getD_eq_getElem?_getD]; simp [h]
theorem rgF_orb (t : List Nat) (p : Nat) (l : List Nat) (f : Nat) : ∀ j, rgF t p f (it t j p) (orb t p j) = some l → ∃ m, j ≤ m ∧ l = orb t p m ∧ it t m p = p := by
  induction f with
  | zero => intro j h; cases h
  | succ f ih =>
    intro j h
    rw [rgF] at h
    cases e : Nat.beq (it t j p) p
    · rw [e, cond_false] at h
      cases e2 : Nat.blt (it t j p) t.length
      · rw [e2] at h; cases h
      · rw [e2, cond_true, ← orb_succ] at h
        obtain ⟨m, h1, h2, h3⟩ := ih (j + 1) h
        exact ⟨m, by omega, h2, h3⟩
    · rw [e, cond_true] at h
      exact ⟨j, Nat.le_refl _, (Option.some.inj h).symm, Nat.eq_of_beq_eq_true e⟩
/-- A ring is the way of a thing until it is back. -/
theorem ringR_orb {t : List Nat} {p : Nat} {l : List Nat} (h : ringR t p = some l) : ∃ m, 1 ≤ m ∧ l = orb t p m ∧ it t m p = p := rgF_orb t p l 9 1 h
theorem ringsH_mem (t : List Nat) (R : List (List Nat)) (n : Nat) : ∀ (p : Nat) (out : List (List Nat)), ringsH t n p out = some R → ∀ l ∈ R, l ∈ out ∨ ∃ q, ringR t q = some l := by
  induction n with
  | zero => intro p out h l hl; have h := Option.some.inj h; subst h; exact .inl hl
  | succ n ih =>
    intro p out h l hl
    rw [ringsH] at h
    cases hr : ringR t p with
    | none => rw [hr] at h; cases h
    | some r =>
      rw [hr] at h
      simp only at h
      rcases ih _ _ h l hl with c | c
      · cases e : Nat.beq (minL p r) p
        · rw [e, cond_false] at c; exact .inl c
        · rw [e, cond_true] at c
          rcases List.mem_append.1 c with c | c
          · exact .inl c
          · simp at c; exact .inr ⟨p, by rw [hr, c]⟩
      · exact .inr c
theorem Known.ring {t : List Nat} {R : List (List Nat)} {n : Nat} (K : Known t R n) {l : List Nat} (hl : l ∈ R) : ∃ p, l = orb t p l.length ∧ it t l.length p = p := by
  rcases ringsH_mem t R _ _ _ K.hr l hl with c | ⟨q, hq⟩
  · cases c
  · obtain ⟨m, _, rfl, h⟩ := ringR_orb hq
    exact ⟨q, by rw [orb_len], by rw [orb_len]; exact h⟩
/-- The place in a ring. -/
def idxI (i : Nat) (T : Int) (m : Nat) : Int := (((i : Int) + T).tmod (m : Int) + (m : Int)).tmod (m : Int)
theorem tmod2 (a : Int) (m : Nat) (hm : 0 < m) : (a.tmod (m : Int) + (m : Int)).tmod (m : Int) = a % (m : Int) := by
  have hm' : (0 : Int) < (m : Int) := by omega
  have h1 := Int.tmod_lt_of_pos a hm'
  have h2 : -(m : Int) < a.tmod (m : Int) := by
    have := Int.lt_tmod_of_pos a hm'
    exact this
  rw [Int.tmod_eq_emod_of_nonneg (by omega)]
  have h3 : a.tmod (m : Int) = a - (m : Int) * a.tdiv (m : Int) := Int.tmod_def a m
  rw [h3, show a - (m : Int) * a.tdiv (m : Int) + (m : Int) = a + (m : Int) * (1 - a.tdiv (m : Int)) by rw [Int.mul_sub, Int.mul_one]; omega, Int.add_mul_emod_self_left]
end Go.Am.Wash


/-
  Plain: where things are after any number of tides, and when a thing comes to a place. No statement of the seat is proved here.
-/
set_option linter.unusedVariables false
set_option linter.unusedSimpArgs false
namespace Go.Am.Wash

theorem nth_at' (t : List Nat) (i : Nat) (h : i < t.length) : nth t i = t[i] := by rw [nth_getD]; simp [List.getD_eq_getElem?_getD, h]
theorem nth_set (o : List Nat) (i v x : Nat) (h : i < o.length) : nth (o.set i v) x = if x = i then v else nth o x := by
  simp only [nth_getD, List.getD_eq_getElem?_getD, List.getElem?_set]
  by_cases c : i = x
  · subst c; simp [h]
  · have : ¬ x = i := fun e => c e.symm
    simp [c, this]
def aIn (l : List Nat) (T : Int) : Nat → Nat → List Nat → List Nat
  | 0, _, o => o
  | n + 1, i, o => aIn l T n (i + 1) (o.set (nth l i) (nth l (idxI i T l.length).toNat))
def aOut (T : Int) : List (List Nat) → List Nat → List Nat
  | [], o => o
  | l :: r, o => aOut T r (aIn l T l.length 0 o)
theorem aIn_len (l : List Nat) (T : Int) (n : Nat) : ∀ i o, (aIn l T n i o).length = o.length := by
  induction n with
  | zero => intro i o; rfl
  | succ n ih => intro i o; rw [aIn, ih]; simp
theorem aOut_len (T : Int) : ∀ (R : List (List Nat)) (o : List Nat), (aOut T R o).length = o.length
  | [], o => rfl
  | l :: r, o => by rw [aOut, aOut_len T r, aIn_len]
def Ck (t : List Nat) (k : Nat) (o : List Nat) (x : Nat) : Prop := nth o x = it t k x
theorem val_ok {t : List Nat} {l : List Nat} {p n : Nat} (hl : l = orb t p l.length) (hp : it t l.length p = p) (hm : 0 < l.length) (hn : n % l.length = 0) (hn0 : 0 < n) (T : Int) (i : Nat) (hi : i < l.length) :
    nth l (idxI i T l.length).toNat = it t (T % (n : Int)).toNat (nth l i) := by
  have he : idxI i T l.length = ((i : Int) + T) % (l.length : Int) := tmod2 _ _ hm
  have h1 : 0 ≤ ((i : Int) + T) % (l.length : Int) := Int.emod_nonneg _ (by omega)
  have h2 : ((i : Int) + T) % (l.length : Int) < (l.length : Int) := Int.emod_lt_of_pos _ (by omega)
  have h3 : 0 ≤ T % (n : Int) := Int.emod_nonneg _ (by omega)
  obtain ⟨e, hee⟩ := Int.eq_ofNat_of_zero_le h1
  obtain ⟨k, hk⟩ := Int.eq_ofNat_of_zero_le h3
  rw [he, hee, hk, Int.toNat_natCast, Int.toNat_natCast]
  have hel : e < l.length := by omega
  have a1 : nth l e = it t e p := by conv => lhs; rw [hl]
                                     exact orb_at t p _ e hel
  have a2 : nth l i = it t i p := by conv => lhs; rw [hl]
                                     exact orb_at t p _ i hi
  rw [a1, a2, ← it_add]
  have hmod : (k + i) % l.length = e := by
    have hd : (l.length : Int) ∣ (n : Int) := by
      have := Nat.dvd_of_mod_eq_zero hn
      exact Int.natCast_dvd_natCast.2 this
    have h4 : ((k : Int) + (i : Int)) % (l.length : Int) = (e : Int) := by
      rw [← hk, ← hee, Int.add_emod, Int.emod_emod_of_dvd _ hd, ← Int.add_emod, Int.add_comm]
    have h5 : (((k + i) % l.length : Nat) : Int) = ((k : Int) + (i : Int)) % (l.length : Int) := by simp
    omega
  rw [← it_mod t l.length p hp (k + i), hmod]
theorem aIn_ok {t : List Nat} {l : List Nat} {p n : Nat} (hl : l = orb t p l.length) (hp : it t l.length p = p) (hm : 0 < l.length) (hn : n % l.length = 0) (hn0 : 0 < n) (T : Int) (hx : ∀ x ∈ l, x < t.length) (d : Nat) : ∀ (i : Nat) (o : List Nat), i + d = l.length → o.length = t.length →
    (∀ x, Ck t (T % (n : Int)).toNat o x → Ck t (T % (n : Int)).toNat (aIn l T d i o) x) ∧ ∀ j, i ≤ j → j < l.length → Ck t (T % (n : Int)).toNat (aIn l T d i o) (nth l j) := by
  induction d with
  | zero => intro i o hi ho; exact ⟨fun x h => h, fun j h1 h2 => by omega⟩
  | succ d ih =>
    intro i o hi ho
    have hil : i < l.length := by omega
    have hv := val_ok hl hp hm hn hn0 T i hil
    have hlt : nth l i < o.length := by rw [ho, nth_at' l i hil]; exact hx _ (List.getElem_mem hil)
    obtain ⟨g1, g2⟩ := ih (i + 1) (o.set (nth l i) (nth l (idxI i T l.length).toNat)) (by omega) (by simpa using ho)
    have hC : ∀ x, Ck t (T % (n : Int)).toNat o x ∨ x = nth l i → Ck t (T % (n : Int)).toNat (o.set (nth l i) (nth l (idxI i T l.length).toNat)) x := by
      intro x h
      unfold Ck at *
      rw [nth_set _ _ _ _ hlt]
      by_cases c : x = nth l i
      · rw [if_pos c, hv, c]
      · rw [if_neg c]
        exact h.resolve_right c
    rw [aIn]
    refine ⟨fun x h => g1 x (hC x (.inl h)), fun j h1 h2 => ?_⟩
    by_cases c : j = i
    · subst c; exact g1 _ (hC _ (.inr rfl))
    · exact g2 j (by omega) h2
theorem mem_nth {l : List Nat} {x : Nat} (h : x ∈ l) : ∃ j, j < l.length ∧ nth l j = x := by
  obtain ⟨j, hj, e⟩ := List.getElem_of_mem h
  exact ⟨j, hj, by rw [nth_at' l j hj, e]⟩
/-- When all is back is after some tides at least. -/
theorem bkF_pos (t id : List Nat) (n : Nat) (f : Nat) : ∀ k now, 0 < k → bkF t id f k now = some n → 0 < n := by
  induction f with
  | zero => intro k now _ h; cases h
  | succ f ih =>
    intro k now hk h
    rw [bkF] at h
    cases e : eqN now id
    · rw [e, cond_false] at h; exact ih _ _ (by omega) h
    · rw [e, cond_true] at h; have := Option.some.inj h; omega
theorem Known.npos {t : List Nat} {R : List (List Nat)} {n : Nat} (K : Known t R n) : 0 < n := bkF_pos _ _ _ _ _ _ (by omega) K.bk
theorem aOut_ok {t : List Nat} {R0 : List (List Nat)} {n : Nat} (K : Known t R0 n) (T : Int) : ∀ (R : List (List Nat)) (o : List Nat), (∀ l ∈ R, l ∈ R0) → o.length = t.length →
    (∀ x, Ck t (T % (n : Int)).toNat o x → Ck t (T % (n : Int)).toNat (aOut T R o) x) ∧ ∀ l ∈ R, ∀ x ∈ l, Ck t (T % (n : Int)).toNat (aOut T R o) x
  | [], o, _, _ => ⟨fun x h => h, by simp⟩
  | l :: r, o, hR, ho => by
    obtain ⟨r1, r2, r3, r4⟩ := K.rows l (hR l (by simp))
    obtain ⟨p, hl, hp⟩ := K.ring (hR l (by simp))
    obtain ⟨a1, a2⟩ := aIn_ok hl hp r1 r3 K.npos T r4 l.length 0 o (by omega) ho
    obtain ⟨b1, b2⟩ := aOut_ok K T r (aIn l T l.length 0 o) (fun x hx => hR x (by simp [hx])) (by rw [aIn_len, ho])
    rw [aOut]
    refine ⟨fun x h => b1 x (a1 x h), fun l' hl' x hx => ?_⟩
    rcases List.mem_cons.1 hl' with rfl | hl'
    · obtain ⟨j, hj, e⟩ := mem_nth hx
      exact b1 x (by rw [← e]; exact a2 j (by omega) hj)
    · exact b2 l' hl' x hx
/-- After so many tides. -/
def aftV (t : List Nat) (k : Nat) : List Nat := (List.range t.length).map (it t k)
theorem list_nth_ext {a b : List Nat} (h : a.length = b.length) (h2 : ∀ x, x < a.length → nth a x = nth b x) : a = b := by
  apply List.ext_getElem h
  intro i h3 h4
  have := h2 i h3
  rw [nth_at' a i h3, nth_at' b i h4] at this
  exact this
theorem aft_prog {t : List Nat} {R : List (List Nat)} {n : Nat} (K : Known t R n) (T : Int) : aOut T R (List.replicate t.length 0) = aftV t (T % (n : Int)).toNat := by
  apply list_nth_ext
  · rw [aOut_len]; simp [aftV]
  · intro x hx
    rw [aOut_len, List.length_replicate] at hx
    obtain ⟨l, hl, hxl⟩ := K.cov x hx
    have := (aOut_ok K T R (List.replicate t.length 0) (fun l h => h) (by simp)).2 l hl x hxl
    rw [this, nth_getD, aftV, List.getD_eq_getElem?_getD]
    simp [hx]
theorem aftV_zero (t : List Nat) : aftV t 0 = List.range t.length := by simp [aftV, it]

/-- A list without repetitions below a number is no longer than it. -/
theorem nodup_len : ∀ (n : Nat) (l : List Nat), l.Nodup → (∀ x ∈ l, x < n) → l.length ≤ n
  | 0, l, _, h => by
    cases l with
    | nil => simp
    | cons a r => have := h a (by simp); omega
  | n + 1, l, hd, h => by
    have h1 := nodup_len n (l.filter fun x => decide (x ≠ n)) (hd.filter _) (fun x hx => by
      simp only [List.mem_filter, decide_eq_true_eq] at hx
      have := h x hx.1; omega)
    have h2 : (l.filter fun x => decide (x = n)).length ≤ 1 := by
      have e : l.filter (fun x => decide (x = n)) = l.filter (fun x => x == n) := by
        apply List.filter_congr; intro x _; rw [Bool.eq_iff_iff]; simp
      rw [e, ← List.count_eq_length_filter]
      exact List.nodup_iff_count.1 hd n
    have h3 : l.length = (l.filter fun x => decide (x ≠ n)).length + (l.filter fun x => decide (x = n)).length := by
      clear h1 h2 hd h
      induction l with
      | nil => rfl
      | cons a r ih =>
        by_cases c : a = n <;> simp [c, ih] <;> omega
    omega
theorem it_lt {t : List Nat} (h : ∀ x ∈ t, x < t.length) {p : Nat} (hp : p < t.length) : ∀ k, it t k p < t.length
  | 0 => hp
  | k + 1 => by
    have := it_lt h hp k
    rw [it, nth_at' t _ this]; exact h _ (List.getElem_mem this)
theorem it_inj {t : List Nat} (hT : Tide t.length t) {p q : Nat} (hp : p < t.length) (hq : q < t.length) : ∀ k, it t k p = it t k q → p = q
  | 0, h => h
  | k + 1, h => by
    have h1 := it_lt hT.2.2 hp k
    have h2 := it_lt hT.2.2 hq k
    rw [it, it, nth_at' t _ h1, nth_at' t _ h2] at h
    exact it_inj hT hp hq k ((List.getElem_inj hT.2.1).1 h)
end Go.Am.Wash


