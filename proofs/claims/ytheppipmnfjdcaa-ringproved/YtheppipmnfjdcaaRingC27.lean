import Derived.Test.YtheppipmnfjdcaaRingC24
import Derived.Test.YtheppipmnfjdcaaRingC16
/-
  What functions of chapter 04 compute, 27: the shortest ring, of the reference; Index, Contains and Min of lists.
-/
set_option linter.unusedVariables false
set_option linter.unusedSimpArgs false
set_option maxRecDepth 10000
namespace Go.Am.Ring
open Go.Am.G

def shorterD (o r : List Nat) : List Nat := if r.length < o.length then r else o
theorem shorter_some : ∀ (l : List (List Nat)) (a : List Nat), l.foldl shorter (some a) = some (l.foldl shorterD a)
  | [], a => rfl
  | r :: l, a => by
    rw [List.foldl_cons, List.foldl_cons, ← shorter_some l]
    congr 1
    simp only [shorter, shorterD]
    split <;> rfl
theorem minR_cons {P : List (Nat × Nat)} {a : List Nat} {l : List (List Nat)} (h : allR P = a :: l) : minR P = some (l.foldl shorterD a) := by
  rw [minR, h, List.foldl_cons]; exact shorter_some l a
theorem minR_nil {P : List (Nat × Nat)} (h : allR P = []) : minR P = none := by rw [minR, h]; rfl
theorem minR_mem {P : List (Nat × Nat)} {r : List Nat} (h : minR P = some r) : r ∈ allR P := by
  have hs : ∀ (l : List (List Nat)) (a : List Nat), l.foldl shorterD a ∈ a :: l := by
    intro l
    induction l with
    | nil => intro a; simp
    | cons b l ih =>
      intro a
      have := ih (shorterD a b)
      rw [List.foldl_cons]
      rcases List.mem_cons.1 this with h | h
      · rw [h]; unfold shorterD; split <;> simp
      · simp [h]
  match hA : allR P with
  | [] => rw [minR_nil hA] at h; cases h
  | a :: l =>
    rw [minR_cons hA] at h
    simp only [Option.some.injEq] at h
    rw [← h]; exact hs l a
/-! ### Lists of the library -/
def idxI (x : Int) : List Int → Nat → Int
  | [], _ => -1
  | a :: r, k => if x = a then (k : Int) else idxI x r (k + 1)
theorem idxI_mem (x : Int) : ∀ (l : List Int) (k : Nat), (0 ≤ idxI x l k) ↔ x ∈ l
  | [], k => by simp [idxI]
  | a :: r, k => by
    rw [idxI]
    by_cases h : x = a
    · simp [h]
    · simp [h, idxI_mem x r (k + 1)]
theorem index_loop (nl ex : Bool) (sz : Nat) (l : List Int) (x : Int) (hl : l.length < 1000000) (n : Nat) : ∀ k, k + n = l.length →
    exF LP slices_Index_int_int.L0 [(0, IL nl ex sz l), (1, .int .i64 x), (7, .int .i64 (l.length : Int)), (8, .int .i64 (k : Int))] [] =
      if idxI x (l.drop k) k < 0 then some (.exit 0, [], []) else some (.ret, [(4, .int .i64 (idxI x (l.drop k) k))], []) := by
  induction n with
  | zero =>
    intro k hk
    rw [slices_Index_int_int.L0_eq]
    simp only [slices_Index_int_int.B0, exF_seq, exF_region, exF_cond, exF_exit, runL, wantL, stepL, evL, LEnv.at, putL, loadFine, LEnv.keep, List.map_cons, List.map_nil, nbeq, bin_lss, Nat.reduceEqDiff, decide_true, decide_false, cond_true, cond_false, reduceCtorEq, eq_self, show ¬ ((k : Int) < (l.length : Int)) by omega]
    simp [List.drop_eq_nil_of_le (show l.length ≤ k by omega), idxI]
  | succ n ih =>
    intro k hk
    have h2 : k < l.length := by omega
    rw [slices_Index_int_int.L0_eq, List.drop_eq_getElem_cons h2, idxI]
    have hn : ¬ ((k : Int) < 0) := by omega
    by_cases he : x = l[k]
    · simp only [slices_Index_int_int.B0, exF_seq, exF_region, exF_block, exF_cond, exF_ret, exF_skip, runL, wantL, stepL, evL, LEnv.at, putL, loadFine, loadL, cellsAt, Trk.putNew, Trk.up, Trk.touch, Trk.gives, Trk.calm, opdsOf, Trk.fresh, LEnv.keep, List.map_cons, List.map_nil, nbeq, nble, nblt, bin_eql, bin_lss, natL_nat, List.any_cons, List.any_nil, Bool.or_false, Bool.or_true, Bool.and_true, Bool.false_and, Bool.not_true, Bool.not_false, Nat.reduceEqDiff, decide_true, decide_false, cond_true, cond_false, List.filter_nil, Nat.reduceAdd, Nat.reduceLeDiff, reduceCtorEq, List.length_nil, Nat.mul_one, if_true, if_false, eq_self, show ((k : Int) < (l.length : Int)) by omega, h2, int_at _ _ _ h2, he, hn]
    · simp only [slices_Index_int_int.B0, exF_seq, exF_region, exF_block, exF_cond, exF_skip, runL, wantL, stepL, evL, evC, LEnv.at, putL, loadFine, loadL, cellsAt, Trk.putNew, Trk.up, Trk.touch, Trk.gives, Trk.calm, opdsOf, Trk.fresh, LEnv.keep, List.map_cons, List.map_nil, nbeq, nble, nblt, bin_add, bin_eql, bin_lss, natL_nat, List.any_cons, List.any_nil, Bool.or_false, Bool.or_true, Bool.and_true, Bool.false_and, Bool.not_true, Bool.not_false, Nat.reduceEqDiff, decide_true, decide_false, cond_true, cond_false, List.filter_nil, Nat.reduceAdd, Nat.reduceLeDiff, reduceCtorEq, List.length_nil, Nat.mul_one, if_false, eq_self, show ((k : Int) < (l.length : Int)) by omega, h2, int_at _ _ _ h2, he, wrap_succ (show k + 1 < 9223372036854775808 by omega), ih (k + 1) (by omega)]
theorem index_c (nl ex : Bool) (sz : Nat) (l : List Int) (x : Int) (hl : l.length < 1000000) (m : LMem) : clF LP n_slices_Index_int_int [IL nl ex sz l, .int .i64 x] m = some (.P, .int .i64 (idxI x l 0), m) := by
  refine call_P lp_slices_Index_int_int rfl (by simp [LV.pures, LV.pure]) (m1 := []) ?_ rfl m
  have h := index_loop nl ex sz l x hl l.length 0 (by omega)
  simp only [Int.natCast_zero, List.drop_zero] at h
  by_cases hc : idxI x l 0 < 0
  · have : idxI x l 0 = -1 := by
      have : ∀ (l : List Int) (k : Nat), idxI x l k < 0 → idxI x l k = -1 := by
        intro l
        induction l with
        | nil => intro k _; rfl
        | cons a r ih => intro k h; rw [idxI] at h ⊢; split at h <;> rename_i c <;> simp only [c, if_true, if_false] at * <;> first | omega | exact ih _ h
      exact this l 0 hc
    simp only [slices_Index_int_int, slices_Index_int_int.B, exF_seq, exF_region, exF_block, exF_ret, runL, wantL, stepL, evL, evC, LEnv.at, putL, loadFine, LEnv.keep, LEnv.ofFrom, List.map_cons, List.map_nil, nbeq, lenL, Nat.reduceEqDiff, decide_true, decide_false, cond_true, cond_false, Nat.reduceAdd, reduceCtorEq, if_true, eq_self, retL, resultsL, resAllL, resOfL, h, hc]
    rw [this]
  · simp only [slices_Index_int_int, slices_Index_int_int.B, exF_seq, exF_region, exF_block, runL, wantL, stepL, evL, evC, LEnv.at, putL, loadFine, LEnv.keep, LEnv.ofFrom, List.map_cons, List.map_nil, nbeq, lenL, Nat.reduceEqDiff, decide_true, decide_false, cond_true, cond_false, Nat.reduceAdd, reduceCtorEq, if_false, eq_self, retL, resultsL, resAllL, resOfL, h, hc]
theorem contains_c (nl ex : Bool) (sz : Nat) (l : List Int) (x : Int) (hl : l.length < 1000000) (m : LMem) : clF LP n_slices_Contains_int_int [IL nl ex sz l, .int .i64 x] m = some (.P, .bool (decide (x ∈ l)), m) := by
  refine call_P lp_slices_Contains_int_int rfl (by simp [LV.pures, LV.pure]) (m1 := []) ?_ rfl m
  have h := fun m => index_c nl ex sz l x hl m
  have h2 := idxI_mem x l 0
  simp only [slices_Contains_int_int, slices_Contains_int_int.B, exF_seq, exF_region, exF_ret, runL, wantL, stepL, evL, evC, LEnv.at, putL, loadFine, LEnv.keep, LEnv.ofFrom, List.map_cons, List.map_nil, nbeq, ofAVs, bin_geq, Nat.reduceEqDiff, decide_true, decide_false, cond_true, cond_false, Nat.reduceAdd, reduceCtorEq, eq_self, retL, resultsL, resAllL, resOfL, List.append_nil, List.nil_append, h]
  rw [decide_eq_decide.2 h2]
def minF (x y : Int) : Int := if y < x then y else x
theorem min_loop (nl ex : Bool) (sz : Nat) (l : List Int) (hl : l.length < 1000000) (n : Nat) : ∀ (k : Nat) (x : Int), k + n = l.length →
    exF LP slices_Min_int_int.L0 [(0, IL nl ex sz l), (3, .int .i64 x), (4, .int .i64 (k : Int))] [] = some (.exit 0, [(3, .int .i64 ((l.drop k).foldl minF x))], []) := by
  induction n with
  | zero =>
    intro k x hk
    rw [slices_Min_int_int.L0_eq, List.drop_eq_nil_of_le (by omega)]
    simp only [slices_Min_int_int.B0, exF_seq, exF_region, exF_cond, exF_exit, runL, wantL, stepL, evL, LEnv.at, putL, loadFine, LEnv.keep, List.map_cons, List.map_nil, nbeq, lenL, bin_lss, Nat.reduceEqDiff, decide_true, decide_false, cond_true, cond_false, reduceCtorEq, eq_self, show ¬ ((k : Int) < (l.length : Int)) by omega, List.foldl_nil]
  | succ n ih =>
    intro k x hk
    have h2 : k < l.length := by omega
    have ih := ih (k + 1) (minF x l[k]) (by omega)
    rw [slices_Min_int_int.L0_eq, List.drop_eq_getElem_cons h2, List.foldl_cons]
    simp only [minF] at ih ⊢
    simp only [slices_Min_int_int.B0, exF_seq, exF_region, exF_block, exF_cond, exF_skip, runL, wantL, stepL, evL, evC, LEnv.at, putL, loadFine, loadL, cellsAt, Trk.putNew, Trk.up, Trk.touch, Trk.gives, Trk.calm, opdsOf, Trk.fresh, LEnv.keep, List.map_cons, List.map_nil, nbeq, nble, nblt, lenL, bin_add, bin_lss, natL_nat, List.any_cons, List.any_nil, Bool.or_false, Bool.or_true, Bool.and_true, Bool.false_and, Bool.not_true, Bool.not_false, Nat.reduceEqDiff, decide_true, decide_false, cond_true, cond_false, List.filter_nil, Nat.reduceAdd, Nat.reduceLeDiff, reduceCtorEq, List.length_nil, Nat.mul_one, eq_self, foldIntL, kind_beq, show ((k : Int) < (l.length : Int)) by omega, h2, int_at _ _ _ h2, wrap_succ (show k + 1 < 9223372036854775808 by omega), ih]
theorem min_c (nl ex : Bool) (sz : Nat) (a : Int) (l : List Int) (hl : (a :: l).length < 1000000) (m : LMem) : clF LP n_slices_Min_int_int [IL nl ex sz (a :: l)] m = some (.P, .int .i64 (l.foldl minF a), m) := by
  refine call_P lp_slices_Min_int_int rfl (by simp [LV.pures, LV.pure]) (m1 := []) ?_ rfl m
  have h := min_loop nl ex sz (a :: l) hl l.length 1 a (by simp; omega)
  rw [List.drop_succ_cons, List.drop_zero] at h
  simp only [Int.natCast_one] at h
  have h1 : ¬ ((((a :: l).length : Nat) : Int) < 1) := by simp; omega
  have h2 : 0 < (a :: l).length := by simp
  have h3 : ((a :: l).map (LV.int .i64))[0]? = some (.int .i64 a) := rfl
  simp only [IL] at h ⊢
  generalize (a :: l).map (LV.int .i64) = row at *
  generalize (a :: l).length = L at *
  simp only [slices_Min_int_int, slices_Min_int_int.B, exF_seq, exF_region, exF_block, exF_cond, exF_ret, exF_skip, runL, wantL, stepL, evL, evC, LEnv.at, putL, loadFine, loadL, cellsAt, Trk.putNew, Trk.up, Trk.touch, Trk.gives, Trk.calm, opdsOf, Trk.fresh, LEnv.keep, LEnv.ofFrom, List.map_cons, List.map_nil, nbeq, nble, nblt, lenL, bin_lss, natL_zero, List.any_cons, List.any_nil, Bool.or_false, Bool.or_true, Bool.and_true, Bool.false_and, Bool.not_true, Bool.not_false, Nat.reduceEqDiff, decide_true, decide_false, cond_true, cond_false, List.filter_nil, Nat.reduceAdd, Nat.reduceLeDiff, reduceCtorEq, List.length_nil, Nat.mul_one, eq_self, retL, resultsL, resAllL, resOfL, List.drop_zero, h1, h2, h3, h]
theorem minF_le : ∀ (l : List Int) (a : Int), l.foldl minF a ≤ a ∧ ∀ x ∈ l, l.foldl minF a ≤ x
  | [], a => by simp
  | b :: l, a => by
    have h1 : minF a b ≤ a ∧ minF a b ≤ b := by unfold minF; split <;> omega
    obtain ⟨h2, h3⟩ := minF_le l (minF a b)
    rw [List.foldl_cons]
    refine ⟨by omega, fun x hx => ?_⟩
    rcases List.mem_cons.1 hx with rfl | hx
    · omega
    · exact h3 x hx
theorem minF_eq (l : List Int) (a : Int) : l.foldl minF a = a ↔ ∀ x ∈ l, a ≤ x := by
  constructor
  · intro h x hx
    have := (minF_le l a).2 x hx
    omega
  · intro h
    have key : ∀ (l : List Int), (∀ x ∈ l, a ≤ x) → l.foldl minF a = a := by
      intro l
      induction l with
      | nil => intro _; rfl
      | cons b l ih =>
        intro h
        have : minF a b = a := by
          have := h b (by simp)
          unfold minF; rw [if_neg (by omega)]
        rw [List.foldl_cons, this]
        exact ih fun x hx => h x (by simp [hx])
    exact key l h
end Go.Am.Ring

/-
  What functions of chapter 04 compute, 28: which lists are rings, of the program.
-/
set_option linter.unusedVariables false
set_option linter.unusedSimpArgs false
set_option maxRecDepth 10000
namespace Go.Am.Ring
open Go.Am.G

/-! ### Plain -/
theorem chain_iff {P : List (Nat × Nat)} : ∀ (R : List Nat), Chain P R ↔ ∀ k (h : k + 1 < R.length), en P R[k] = st P R[k + 1]
  | [] => by simp [Chain]
  | [x] => by simp [Chain]
  | x :: y :: R => by
    have ih := chain_iff (P := P) (y :: R)
    have e : Chain P (x :: y :: R) ↔ en P x = st P y ∧ Chain P (y :: R) := Iff.rfl
    rw [e, ih]
    constructor
    · rintro ⟨h1, h2⟩ k h
      cases k with
      | zero => exact h1
      | succ k => exact h2 k (by simpa using h)
    · intro h
      exact ⟨h 0 (by simp), fun k hk => h (k + 1) (by simpa using hk)⟩
/-- Is each find followed by one that begins where it ends, and no form met twice? -/
def cyF (P : List (Nat × Nat)) (R : List Nat) : Nat → Nat → Bool
  | 0, _ => true
  | j + 1, k => if (metB P (R.take k)).testBit (st P (R.getD k 0)) = true ∨ en P (R.getD k 0) ≠ st P (R.getD ((k + 1) % R.length) 0) then false else cyF P R j (k + 1)
theorem cyF_iff (P : List (Nat × Nat)) (R : List Nat) : ∀ (j k : Nat), cyF P R j k = true ↔ ∀ i, k ≤ i → i < k + j → (metB P (R.take i)).testBit (st P (R.getD i 0)) = false ∧ en P (R.getD i 0) = st P (R.getD ((i + 1) % R.length) 0)
  | 0, k => by simp [cyF]; intro i h1 h2; omega
  | j + 1, k => by
    rw [cyF]
    split
    · rename_i h
      simp only [Bool.false_eq_true, false_iff]
      intro hc
      obtain ⟨h1, h2⟩ := hc k (Nat.le_refl _) (by omega)
      rcases h with h | h
      · rw [h1] at h; cases h
      · exact h h2
    · rename_i h
      rw [not_or, ne_eq, Decidable.not_not, Bool.not_eq_true] at h
      rw [cyF_iff P R j (k + 1)]
      constructor
      · intro hc i h1 h2
        rcases Nat.eq_or_lt_of_le h1 with rfl | h3
        · exact h
        · exact hc i h3 (by omega)
      · intro hc i h1 h2
        exact hc i (by omega) (by omega)
theorem metB_mem (P : List (Nat × Nat)) (b : List Nat) (x : Nat) : (metB P b).testBit x = false ↔ ∀ k ∈ b, st P k ≠ x := by
  rw [metB, metB_bit]
  simp
theorem cyc_iff {P : List (Nat × Nat)} {R : List Nat} (hne : R ≠ []) (hlt : ∀ k ∈ R, k < P.length) : Cyc P R ↔ cyF P R R.length 0 = true := by
  have hpos : 0 < R.length := List.length_pos_iff.2 hne
  rw [cyF_iff]
  have hg : ∀ i (h : i < R.length), R.getD i 0 = R[i] := fun i h => getD_at R i 0 h
  constructor
  · intro C i _ hi
    rw [Nat.zero_add] at hi
    rw [hg i hi]
    refine ⟨?_, ?_⟩
    · rw [metB_mem]
      intro k hk e
      have hnd := C.nd
      have hs : R = R.take i ++ R[i] :: R.drop (i + 1) := by rw [← List.drop_eq_getElem_cons hi, List.take_append_drop]
      rw [hs, List.map_append, List.nodup_append] at hnd
      exact hnd.2.2 _ (List.mem_map.2 ⟨k, hk, rfl⟩) (st P R[i]) (List.mem_map.2 ⟨R[i], List.mem_cons_self .., rfl⟩) e
    · by_cases c : i + 1 < R.length
      · rw [Nat.mod_eq_of_lt c, hg _ c]
        exact (chain_iff R).1 C.ch i c
      · have e : i + 1 = R.length := by omega
        rw [e, Nat.mod_self, hg 0 hpos]
        have := C.cl
        rw [← last_el R (by omega), ← head_at R hpos] at this
        have e2 : i = R.length - 1 := by omega
        simp only [e2]
        exact this
  · intro h
    refine ⟨hne, hlt, ?_, ?_, ?_⟩
    · rw [List.Nodup, List.pairwise_map, List.pairwise_iff_getElem]
      intro i j hi hj hij
      obtain ⟨h1, _⟩ := h j (Nat.zero_le _) (by omega)
      rw [hg j hj, metB_mem] at h1
      exact h1 _ (by
        rw [List.mem_take_iff_getElem]
        exact ⟨i, by omega, rfl⟩)
    · rw [chain_iff]
      intro k hk
      obtain ⟨_, h2⟩ := h k (Nat.zero_le _) (by omega)
      rw [hg k (by omega), Nat.mod_eq_of_lt hk, hg _ hk] at h2
      exact h2
    · obtain ⟨_, h2⟩ := h (R.length - 1) (Nat.zero_le _) (by omega)
      rw [hg _ (by omega), show R.length - 1 + 1 = R.length by omega, Nat.mod_self, hg 0 hpos] at h2
      rw [← last_el R (by omega), ← head_at R hpos]
      exact h2
theorem chkO_some (L : Nat) : ∀ (r pre : List Int), chkO (L : Int) pre r = 0 → ∃ R : List Nat, r = ci R ∧ (∀ k ∈ R, k < L) ∧ R.Nodup ∧ ∀ k ∈ R, (k : Int) ∉ pre
  | [], pre, _ => ⟨[], rfl, by simp, by simp, by simp⟩
  | x :: r, pre, h => by
    rw [chkO] at h
    split at h
    · rename_i h1
      split at h
      · omega
      · rename_i h2
        obtain ⟨R, rfl, a, b, c⟩ := chkO_some L r _ h
        obtain ⟨k, rfl⟩ := Int.eq_ofNat_of_zero_le h1.1
        refine ⟨k :: R, rfl, ?_, ?_, ?_⟩
        · intro y hy
          rcases List.mem_cons.1 hy with rfl | hy
          · omega
          · exact a y hy
        · rw [List.nodup_cons]
          exact ⟨fun hk => c k hk (by simp), b⟩
        · intro y hy
          rcases List.mem_cons.1 hy with rfl | hy
          · exact h2
          · exact fun hm => c y hy (by simp [hm])
    · omega
open Classical in
/-- What both say of a list. -/
noncomputable def provV (N : Int) (l : List (Int × Int)) (r : List Int) : Int :=
  if chkF N l ≠ 0 then chkF N l else if chkO (l.length : Int) [] r ≠ 0 then chkO (l.length : Int) [] r else if ∃ n P R, N = ((n : Nat) : Int) ∧ l = P.map castP ∧ r = ci R ∧ R ∈ allR P then 0 else 14
theorem castP_inj : ∀ {P Q : List (Nat × Nat)}, P.map castP = Q.map castP → P = Q
  | [], [], _ => rfl
  | [], _ :: _, h => by simp at h
  | _ :: _, [], h => by simp at h
  | a :: P, b :: Q, h => by
    rw [List.map_cons, List.map_cons, List.cons.injEq] at h
    have h1 := h.1
    unfold castP at h1
    simp only [Prod.mk.injEq] at h1
    rw [castP_inj h.2]
    congr 1
    ext <;> omega
theorem provV_of {n : Nat} {P : List (Nat × Nat)} (G : Good n P) {R : List Nat} (h : chkO (P.length : Int) [] (ci R) = 0) : provV (n : Int) (P.map castP) (ci R) = if R ∈ allR P then 0 else 14 := by
  unfold provV
  rw [chkF_of G, List.length_map, h, if_neg (by simp), if_neg (by simp)]
  by_cases c : R ∈ allR P
  · rw [if_pos c, if_pos ⟨n, P, R, rfl, rfl, rfl, c⟩]
  · rw [if_neg c, if_neg]
    rintro ⟨n', P', R', _, h2, h3, h4⟩
    rw [castP_inj h2, ci_inj _ _ h3] at c
    exact c h4

/-! ### The program's Proves -/
theorem prov0_loop (nl ex nl' ex' : Bool) (sz : Nat) (l : List (Int × Int)) (hl : l.length < 1000) (o : List Int) (ho : o.length < 1000) (n : Nat) : ∀ (k : Nat), k + n = o.length →
    exF LP ring_Proves.L0 [(1, FL nl ex sz l), (2, IL nl' ex' 1 o), (20, IL nl' ex' 1 o), (21, .int .i64 (o.length : Int)), (22, .int .i64 (k : Int))] [] =
      if chkO (l.length : Int) (o.take k) (o.drop k) = 0 then some (.exit 0, [(1, FL nl ex sz l), (2, IL nl' ex' 1 o)], []) else some (.ret, [(6, .int .i64 (chkO (l.length : Int) (o.take k) (o.drop k)))], []) := by
  have hw : IntKind.i64.wrap ((l.length : Int) - 1) = (l.length : Int) - 1 := wrap_in (by omega)
  induction n with
  | zero =>
    intro k hk
    rw [ring_Proves.L0_eq]
    simp only [ring_Proves.B0, exF_seq, exF_region, exF_cond, exF_exit, runL, wantL, stepL, evL, LEnv.at, putL, loadFine, LEnv.keep, List.map_cons, List.map_nil, nbeq, bin_lss, Nat.reduceEqDiff, decide_true, decide_false, cond_true, cond_false, if_true, eq_self, show ¬ ((k : Int) < (o.length : Int)) by omega, List.drop_eq_nil_of_le (show o.length ≤ k by omega), chkO]
  | succ n ih =>
    intro k hk
    have h2 : k < o.length := by omega
    have ih := ih (k + 1) (by omega)
    rw [take_snoc o k h2] at ih
    rw [ring_Proves.L0_eq, List.drop_eq_getElem_cons h2, chkO]
    by_cases c1 : 0 ≤ o[k] ∧ o[k] < (l.length : Int)
    · have e1 : inB 0 ((l.length : Int) - 1) o[k] = true := by simp only [inB]; rw [decide_eq_true_eq]; omega
      rw [if_pos c1]
      have hp := fun m => contains_c nl' (ex' && decide (k = o.length)) 1 (o.take k) o[k] (by simp; omega) m
      have hs := slc_take nl' ex' o k (by omega)
      by_cases c2 : o[k] ∈ o.take k
      · rw [if_pos c2, if_neg (by decide)]
        simp only [c2, decide_true] at hp
        simp only [ring_Proves.B0, exF_seq, exF_region, exF_block, exF_cond, exF_ret, exF_skip, runL, wantL, stepL, evL, evC, LEnv.at, putL, loadFine, loadL, cellsAt, Trk.putNew, Trk.up, Trk.touch, Trk.gives, Trk.calm, opdsOf, Trk.fresh, LEnv.keep, List.map_cons, List.map_nil, nbeq, nble, nblt, ofAVs, lenL, bin_sub, bin_lss, natL_nat, List.any_cons, List.any_nil, Bool.or_false, Bool.or_true, Bool.and_true, Bool.false_and, Bool.not_true, Bool.not_false, Nat.reduceEqDiff, decide_true, decide_false, cond_true, cond_false, List.filter_nil, Nat.reduceAdd, Nat.reduceLeDiff, List.length_nil, Nat.mul_one, eq_self, List.append_nil, List.nil_append, unL, show ((k : Int) < (o.length : Int)) by omega, h2, int_at _ _ _ h2, between_c, hw, e1, Option.map_none, Option.map_some, hs, hp]
      · rw [if_neg c2]
        simp only [c2, decide_false] at hp
        simp only [ring_Proves.B0, exF_seq, exF_region, exF_block, exF_cond, exF_skip, runL, wantL, stepL, evL, evC, LEnv.at, putL, loadFine, loadL, cellsAt, Trk.putNew, Trk.up, Trk.touch, Trk.gives, Trk.calm, opdsOf, Trk.fresh, LEnv.keep, List.map_cons, List.map_nil, nbeq, nble, nblt, ofAVs, lenL, bin_add, bin_sub, bin_lss, natL_nat, List.any_cons, List.any_nil, Bool.or_false, Bool.or_true, Bool.and_true, Bool.false_and, Bool.not_true, Bool.not_false, Nat.reduceEqDiff, decide_true, decide_false, cond_true, cond_false, List.filter_nil, Nat.reduceAdd, Nat.reduceLeDiff, List.length_nil, Nat.mul_one, eq_self, List.append_nil, List.nil_append, unL, trim_nil, envVals, show ((k : Int) < (o.length : Int)) by omega, h2, int_at _ _ _ h2, between_c, hw, e1, Option.map_none, Option.map_some, hs, hp, wrap_succ (show k + 1 < 9223372036854775808 by omega), ih]
    · have e1 : inB 0 ((l.length : Int) - 1) o[k] = false := by simp only [inB]; rw [decide_eq_false_iff_not]; omega
      rw [if_neg c1, if_neg (by decide)]
      simp only [ring_Proves.B0, exF_seq, exF_region, exF_block, exF_cond, exF_ret, exF_skip, runL, wantL, stepL, evL, evC, LEnv.at, putL, loadFine, loadL, cellsAt, Trk.putNew, Trk.up, Trk.touch, Trk.gives, Trk.calm, opdsOf, Trk.fresh, LEnv.keep, List.map_cons, List.map_nil, nbeq, nble, nblt, ofAVs, lenL, bin_sub, bin_lss, natL_nat, List.any_cons, List.any_nil, Bool.or_false, Bool.or_true, Bool.and_true, Bool.false_and, Bool.not_true, Bool.not_false, Nat.reduceEqDiff, decide_true, decide_false, cond_true, cond_false, List.filter_nil, Nat.reduceAdd, Nat.reduceLeDiff, List.length_nil, Nat.mul_one, eq_self, List.append_nil, List.nil_append, unL, show ((k : Int) < (o.length : Int)) by omega, h2, int_at _ _ _ h2, between_c, hw, e1]
theorem prov1_loop {n0 : Nat} (P : List (Nat × Nat)) (G : Good n0 P) (nl ex nl' ex' : Bool) (sz : Nat) (R : List Nat) (hR : ∀ k ∈ R, k < P.length) (hRl : R.length < 1000) (n : Nat) : ∀ (k : Nat), k + n = R.length →
    ∃ M', exF LP ring_Proves.L1 [(1, FN nl ex sz P), (2, IL nl' ex' 1 (ci R)), (10, .int .i64 ((metB P (R.take k) : Nat) : Int)), (52, IL nl' ex' 1 (ci R)), (53, .int .i64 (R.length : Int)), (54, .int .i64 (k : Int))] [] =
      if cyF P R n k = true then some (.exit 3, [], []) else some (.ret, [(6, .int .i64 14)], M') := by
  have h12 := G.le12
  have h6 := G.le6
  have hcl := ci_len R
  induction n with
  | zero =>
    intro k hk
    refine ⟨[], ?_⟩
    rw [ring_Proves.L1_eq]
    simp only [IL, hcl]
    generalize (ci R).map (LV.int .i64) = row at *
    simp only [ring_Proves.B1, exF_seq, exF_region, exF_cond, exF_exit, runL, wantL, stepL, evL, LEnv.at, putL, loadFine, LEnv.keep, List.map_cons, List.map_nil, nbeq, bin_lss, Nat.reduceEqDiff, decide_true, decide_false, cond_true, cond_false, if_true, eq_self, show ¬ ((k : Int) < (R.length : Int)) by omega, cyF]
  | succ n ih =>
    intro k hk
    have h2 : k < R.length := by omega
    have hkk : (k : Int) < (R.length : Int) := by omega
    have hw := wrap_succ (show k + 1 < 9223372036854775808 by omega)
    have hgk : R.getD k 0 = R[k] := getD_at R k 0 h2
    have hRk := hR _ (List.getElem_mem h2)
    have hmod : (k + 1) % R.length < R.length := Nat.mod_lt _ (by omega)
    have hgm : R.getD ((k + 1) % R.length) 0 = R[(k + 1) % R.length] := getD_at R _ 0 hmod
    have hRm := hR _ (List.getElem_mem hmod)
    have hat : (ci R).map (LV.int .i64) = R.map fun y : Nat => LV.int .i64 (y : Int) := by simp
    have b0 := nat_at .i64 R k h2
    have bm := nat_at .i64 R _ hmod
    rw [← hat] at b0 bm
    have seg := pcSE P _ hRk
    have ok := pcN_ok P _ hRk
    have sm := pcS P _ hRm
    have hst := (st_lt G hRk).1
    have hml : metB P (R.take k) < 64 := metB_lt _ 0 (fun x hx => by have := (st_lt G (hR x (List.mem_of_mem_take hx))).1; omega) (by omega)
    have hshr := sshr (a := metB P (R.take k)) (show st P R[k] < 64 by omega)
    have hand := sand1 (a := metB P (R.take k) / 2 ^ st P R[k]) (Nat.lt_of_le_of_lt (Nat.div_le_self _ _) (by omega))
    have hbit := bit_dec (metB P (R.take k)) (st P R[k])
    have hrem : binL .rem (.int .i64 ((k + 1 : Nat) : Int)) (.int .i64 (R.length : Int)) = some (.int .i64 (((k + 1) % R.length : Nat) : Int)) := by
      rw [bin_rem (k := .i64) (a := ((k + 1 : Nat) : Int)) (b := (R.length : Int)) (show (R.length : Int) ≠ 0 by omega), tmod_nat]
    obtain ⟨M', ih⟩ := ih (k + 1) (by omega)
    rw [take_snoc R k h2, metB_snoc] at ih
    have hshl := sshl (show st P R[k] < 32 by omega)
    have hpw : 2 ^ st P R[k] < 2 ^ 6 := Nat.pow_lt_pow_right (by omega) (by omega)
    have hor := sor (a := metB P (R.take k)) (b := 2 ^ st P R[k]) (by omega) (by omega)
    rw [cyF, hgk, hgm]
    simp only [FN_eq] at ih ⊢
    simp only [IL, hcl] at ih ⊢
    generalize (ci R).map (LV.int .i64) = row at *
    cases c : (metB P (R.take k)).testBit (st P R[k])
    · rw [c] at hbit
      by_cases c2 : en P R[k] = st P R[(k + 1) % R.length]
      · have c2' : ((en P R[k] : Nat) : Int) = ((st P R[(k + 1) % R.length] : Nat) : Int) := by omega
        refine ⟨M', ?_⟩
        rw [ring_Proves.L1_eq, if_neg (show ¬ (false = true ∨ en P R[k] ≠ st P R[(k + 1) % R.length]) by simp [c2]), ← ih]
        simp only [ring_Proves.B1, beqF, exF_seq, exF_region, exF_block, exF_cond, exF_skip, runL, wantL, stepL, evL, evC, LEnv.at, putL, loadFine, loadL, cellsAt, Trk.putNew, Trk.up, Trk.touch, Trk.gives, Trk.calm, Trk.hit, opdsOf, Trk.fresh, LEnv.keep, List.map_cons, List.map_nil, nbeq, nble, nblt, ofAV, ofAVs, lenL, bin_add, bin_eql, bin_neq, bin_lss, natL_nat, natL_zero, natL_one, List.any_cons, List.any_nil, Bool.or_false, Bool.or_true, Bool.and_true, Bool.false_and, Bool.not_true, Bool.not_false, Nat.reduceEqDiff, decide_true, decide_false, cond_true, cond_false, List.filter_nil, Nat.reduceAdd, Nat.reduceLeDiff, reduceCtorEq, List.length_nil, List.length_cons, Nat.mul_one, eq_self, List.append_nil, List.nil_append, not_true_eq_false, ne_eq, LV.cells, allocL, List.getElem?_cons_zero, List.getElem?_cons_succ, storeL, spliceL, List.take_zero, List.take_succ_cons, List.drop_zero, List.drop_succ_cons, List.drop_nil, List.take_nil, Nat.le_refl, List.set_cons_zero, LV.scalar, List.all_cons, List.all_nil, Nat.lt_add_one, Nat.reduceLT, trim0, envVals, LV.unders, LV.under, Nat.add_zero, hkk, h2, b0, hRk, ok, seg, hshr, hand, hbit, hw, hrem, hmod, bm, hRm, sm, c2', hshl, hor, LV.unders, LV.under]
      · have c2' : ¬ ((en P R[k] : Nat) : Int) = ((st P R[(k + 1) % R.length] : Nat) : Int) := by omega
        refine ⟨[⟨[.int .i64 ((st P R[k] : Nat) : Int), .int .i64 ((en P R[k] : Nat) : Int)], true⟩], ?_⟩
        rw [ring_Proves.L1_eq, if_pos (show false = true ∨ en P R[k] ≠ st P R[(k + 1) % R.length] from .inr c2), if_neg (by simp)]
        simp only [ring_Proves.B1, beqF, exF_seq, exF_region, exF_block, exF_cond, exF_ret, exF_skip, runL, wantL, stepL, evL, evC, LEnv.at, putL, loadFine, loadL, cellsAt, Trk.putNew, Trk.up, Trk.touch, Trk.gives, Trk.calm, Trk.hit, opdsOf, Trk.fresh, LEnv.keep, List.map_cons, List.map_nil, nbeq, nble, nblt, ofAV, ofAVs, lenL, bin_add, bin_eql, bin_neq, bin_lss, natL_nat, natL_zero, natL_one, List.any_cons, List.any_nil, Bool.or_false, Bool.or_true, Bool.and_true, Bool.false_and, Bool.not_true, Bool.not_false, Nat.reduceEqDiff, decide_true, decide_false, cond_true, cond_false, List.filter_nil, Nat.reduceAdd, Nat.reduceLeDiff, reduceCtorEq, List.length_nil, List.length_cons, Nat.mul_one, eq_self, List.append_nil, List.nil_append, not_false_eq_true, ne_eq, LV.cells, allocL, List.getElem?_cons_zero, List.getElem?_cons_succ, storeL, spliceL, List.take_zero, List.take_succ_cons, List.drop_zero, List.drop_succ_cons, List.drop_nil, List.take_nil, Nat.le_refl, List.set_cons_zero, LV.scalar, List.all_cons, List.all_nil, Nat.lt_add_one, Nat.reduceLT, Nat.add_zero, hkk, h2, b0, hRk, ok, seg, hshr, hand, hbit, hw, hrem, hmod, bm, hRm, sm, c2']
    · rw [c] at hbit
      refine ⟨[⟨[.int .i64 ((st P R[k] : Nat) : Int), .int .i64 ((en P R[k] : Nat) : Int)], true⟩], ?_⟩
      rw [ring_Proves.L1_eq, if_pos (show true = true ∨ en P R[k] ≠ st P R[(k + 1) % R.length] from .inl rfl), if_neg (by simp)]
      simp only [ring_Proves.B1, beqF, exF_seq, exF_region, exF_block, exF_cond, exF_ret, exF_skip, runL, wantL, stepL, evL, evC, LEnv.at, putL, loadFine, loadL, cellsAt, Trk.putNew, Trk.up, Trk.touch, Trk.gives, Trk.calm, Trk.hit, opdsOf, Trk.fresh, LEnv.keep, List.map_cons, List.map_nil, nbeq, nble, nblt, ofAV, ofAVs, bin_eql, bin_lss, natL_nat, natL_zero, List.any_cons, List.any_nil, Bool.or_false, Bool.or_true, Bool.and_true, Bool.false_and, Bool.not_true, Bool.not_false, Nat.reduceEqDiff, decide_true, decide_false, cond_true, cond_false, List.filter_nil, Nat.reduceAdd, Nat.reduceLeDiff, reduceCtorEq, List.length_nil, List.length_cons, Nat.mul_one, eq_self, List.append_nil, List.nil_append, LV.cells, allocL, List.getElem?_cons_zero, storeL, spliceL, List.take_zero, List.take_succ_cons, List.drop_zero, List.drop_succ_cons, List.drop_nil, Nat.le_refl, List.set_cons_zero, LV.scalar, List.all_cons, List.all_nil, Nat.reduceLT, Nat.add_zero, hkk, h2, b0, hRk, ok, seg, hshr, hand, hbit]
theorem proves_c {n : Nat} {P : List (Nat × Nat)} (G : Good n P) (nl ex nl' ex' : Bool) (sz : Nat) (w : List Int) (hw : w.length < 1000) (m : LMem) : clF LP n_ring_Proves [.int .i64 (n : Int), FN nl ex sz P, IL nl' ex' 1 w] m = some (.P, .int .i64 (provV (n : Int) (P.map castP) w), m) := by
  have hc := fun m => check_c nl ex sz (n : Int) (P.map castP) (by have := G.le12; simp; omega) m
  rw [chkF_of G] at hc
  have h0 := prov0_loop nl ex nl' ex' sz (P.map castP) (by have := G.le12; simp; omega) w hw w.length 0 (by omega)
  rw [List.take_zero, List.drop_zero, List.length_map] at h0
  simp only [Int.natCast_zero] at h0
  have hpu : LV.pures [.int .i64 (n : Int), FN nl ex sz P, IL nl' ex' 1 w] = true := by simp [LV.pures, LV.pure]
  by_cases h : chkO (P.length : Int) [] w = 0
  · obtain ⟨R, rfl, hR, hnd, _⟩ := chkO_some P.length w [] h
    rw [provV_of G h]
    rw [if_pos h] at h0
    have hcl := ci_len R
    cases R with
    | nil =>
      have hno : ([] : List Nat) ∉ allR P := fun c => ((allR_mem G []).1 c).1.ne rfl
      rw [if_neg hno]
      refine call_P lp_ring_Proves rfl hpu (m1 := []) ?_ rfl m
      simp only [List.map_nil, List.length_nil, Int.natCast_zero] at h0 ⊢
      simp only [FN_eq] at hc h0 ⊢
      simp only [ring_Proves, ring_Proves.B, beqF, exF_seq, exF_region, exF_block, exF_cond, exF_ret, exF_skip, runL, wantL, stepL, evL, evC, LEnv.at, putL, loadFine, LEnv.keep, LEnv.ofFrom, List.map_cons, List.map_nil, nbeq, ofAVs, lenL, bin_eql, bin_neq, Bool.not_true, Nat.reduceEqDiff, decide_true, decide_false, cond_true, cond_false, Nat.reduceAdd, reduceCtorEq, List.length_nil, eq_self, retL, resultsL, resAllL, resOfL, List.append_nil, List.nil_append, not_true_eq_false, ne_eq, Int.natCast_zero, hc, h0]
    | cons a R =>
      have hRl : (a :: R).length < 1000 := by rw [ci_len] at hw; exact hw
      have hm := fun m => min_c nl' ex' 1 (a : Int) (ci R) (by rw [ci_len] at hw; simp at hw ⊢; omega) m
      have hne : ¬ (((ci (a :: R)).length : Nat) : Int) = 0 := by simp; omega
      have hpos : 0 < (ci (a :: R)).length := by simp
      have hat0 : ((ci (a :: R)).map (LV.int .i64))[0]? = some (.int .i64 (a : Int)) := rfl
      have hmin := minF_eq (ci R) (a : Int)
      by_cases c : ∀ k ∈ R, a < k
      · have cm : (ci R).foldl minF (a : Int) = (a : Int) := hmin.2 fun x hx => by
          obtain ⟨k, hk, rfl⟩ := List.mem_map.1 hx
          have := c k hk; omega
        obtain ⟨M', h1⟩ := prov1_loop P G nl ex nl' ex' sz (a :: R) hR hRl (a :: R).length 0 (by omega)
        have hm0 : ((metB P ((a :: R).take 0) : Nat) : Int) = 0 := rfl
        rw [hm0] at h1
        have hii := cyc_iff (P := P) (R := a :: R) (by simp) hR
        have hal := allR_mem G (a :: R)
        rw [← hcl] at h1
        rw [hcl] at h1 hne hpos h0
        have hlen : (a :: R).length = (a :: R).length := rfl
        have hm : ∀ m, clF LP n_slices_Min_int_int [.lst nl' ex' 1 (a :: R).length ((ci (a :: R)).map (LV.int .i64))] m = some (.P, .int .i64 ((ci R).foldl minF (a : Int)), m) := fun m => by
          rw [← hcl]; exact hm m
        rw [cm] at hm
        have hpu' : LV.pures [.int .i64 (n : Int), FN nl ex sz P, .lst nl' ex' 1 (a :: R).length ((ci (a :: R)).map (LV.int .i64))] = true := by
          rw [← hcl]; exact hpu
        simp only [IL, hcl] at h0 h1 ⊢
        simp only [Int.natCast_zero] at h1
        by_cases c2 : cyF P (a :: R) (a :: R).length 0 = true
        · rw [if_pos (hal.2 ⟨hii.2 c2, c⟩)]
          rw [if_pos c2] at h1
          refine call_P lp_ring_Proves rfl hpu' (m1 := []) ?_ rfl m
          generalize (ci (a :: R)).map (LV.int .i64) = row at *
          generalize (a :: R).length = L at *
          simp only [FN_eq] at hc h0 h1 ⊢
          simp only [ring_Proves, ring_Proves.B, beqF, exF_seq, exF_region, exF_block, exF_cond, exF_ret, exF_skip, runL, wantL, stepL, evL, evC, LEnv.at, putL, loadFine, loadL, cellsAt, Trk.putNew, Trk.up, Trk.touch, Trk.gives, Trk.calm, opdsOf, Trk.fresh, LEnv.keep, LEnv.ofFrom, List.map_cons, List.map_nil, nbeq, nble, nblt, ofAVs, lenL, bin_eql, bin_neq, natL_zero, List.any_cons, List.any_nil, Bool.or_false, Bool.or_true, Bool.and_true, Bool.false_and, Bool.not_true, Bool.not_false, Nat.reduceEqDiff, decide_true, decide_false, cond_true, cond_false, List.filter_nil, List.filter_cons, Nat.reduceAdd, reduceCtorEq, List.length_nil, Nat.mul_one, if_true, eq_self, retL, resultsL, resAllL, resOfL, List.append_nil, List.nil_append, not_true_eq_false, ne_eq, List.drop_zero, Nat.le_refl, hc, h0, hne, hm, hpos, hat0, h1]
        · rw [if_neg fun hmem => c2 (hii.1 (hal.1 hmem).1)]
          rw [if_neg c2] at h1
          refine call_P lp_ring_Proves rfl hpu' (m1 := M') ?_ rfl m
          generalize (ci (a :: R)).map (LV.int .i64) = row at *
          generalize (a :: R).length = L at *
          simp only [FN_eq] at hc h0 h1 ⊢
          simp only [ring_Proves, ring_Proves.B, beqF, exF_seq, exF_region, exF_block, exF_cond, exF_skip, runL, wantL, stepL, evL, evC, LEnv.at, putL, loadFine, loadL, cellsAt, Trk.putNew, Trk.up, Trk.touch, Trk.gives, Trk.calm, opdsOf, Trk.fresh, LEnv.keep, LEnv.ofFrom, List.map_cons, List.map_nil, nbeq, nble, nblt, ofAVs, lenL, bin_eql, bin_neq, natL_zero, List.any_cons, List.any_nil, Bool.or_false, Bool.or_true, Bool.and_true, Bool.false_and, Bool.not_true, Bool.not_false, Nat.reduceEqDiff, decide_true, decide_false, cond_true, cond_false, List.filter_nil, List.filter_cons, Nat.reduceAdd, reduceCtorEq, List.length_nil, Nat.mul_one, if_true, eq_self, retL, resultsL, resAllL, resOfL, List.append_nil, List.nil_append, not_true_eq_false, ne_eq, List.drop_zero, Nat.le_refl, hc, h0, hne, hm, hpos, hat0, h1]
      · have hnal : a :: R ∉ allR P := fun hmem => c ((allR_mem G (a :: R)).1 hmem).2
        rw [if_neg hnal]
        have cm : ¬ (ci R).foldl minF (a : Int) = (a : Int) := fun e => c fun k hk => by
          have := hmin.1 e (k : Int) (List.mem_map.2 ⟨k, hk, rfl⟩)
          have hn := (List.nodup_cons.1 hnd).1
          have : k ≠ a := fun e => hn (e ▸ hk)
          omega
        refine call_P lp_ring_Proves rfl hpu (m1 := []) ?_ rfl m
        have hm : ∀ m, clF LP n_slices_Min_int_int [.lst nl' ex' 1 (ci (a :: R)).length ((ci (a :: R)).map (LV.int .i64))] m = some (.P, .int .i64 ((ci R).foldl minF (a : Int)), m) := hm
        simp only [IL] at h0 ⊢
        generalize (ci (a :: R)).map (LV.int .i64) = row at *
        generalize (ci (a :: R)).length = L at *
        simp only [FN_eq] at hc h0 ⊢
        simp only [ring_Proves, ring_Proves.B, beqF, exF_seq, exF_region, exF_block, exF_cond, exF_ret, exF_skip, runL, wantL, stepL, evL, evC, LEnv.at, putL, loadFine, loadL, cellsAt, Trk.putNew, Trk.up, Trk.touch, Trk.gives, Trk.calm, opdsOf, Trk.fresh, LEnv.keep, LEnv.ofFrom, List.map_cons, List.map_nil, nbeq, nble, nblt, ofAVs, lenL, bin_eql, bin_neq, natL_zero, List.any_cons, List.any_nil, Bool.or_false, Bool.or_true, Bool.and_true, Bool.false_and, Bool.not_true, Bool.not_false, Nat.reduceEqDiff, decide_true, decide_false, cond_true, cond_false, List.filter_nil, List.filter_cons, Nat.reduceAdd, reduceCtorEq, List.length_nil, Nat.mul_one, if_true, eq_self, retL, resultsL, resAllL, resOfL, List.append_nil, List.nil_append, not_true_eq_false, not_false_eq_true, ne_eq, List.drop_zero, Nat.le_refl, hc, h0, hne, hm, hpos, hat0, cm]
  · have hv : provV (n : Int) (P.map castP) w = chkO (P.length : Int) [] w := by
      unfold provV
      rw [chkF_of G, List.length_map, if_neg (by simp), if_pos h]
    rw [hv]
    rw [if_neg h] at h0
    refine call_P lp_ring_Proves rfl hpu (m1 := []) ?_ rfl m
    simp only [FN_eq] at hc h0 ⊢
    simp only [ring_Proves, ring_Proves.B, exF_seq, exF_region, exF_block, exF_cond, exF_skip, runL, wantL, stepL, evL, evC, LEnv.at, putL, loadFine, LEnv.keep, LEnv.ofFrom, List.map_cons, List.map_nil, nbeq, ofAVs, lenL, bin_neq, Nat.reduceEqDiff, decide_true, decide_false, cond_true, cond_false, Nat.reduceAdd, reduceCtorEq, eq_self, retL, resultsL, resAllL, resOfL, List.append_nil, List.nil_append, not_true_eq_false, ne_eq, hc, h0]
end Go.Am.Ring


