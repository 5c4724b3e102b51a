/-
  What functions of chapter 12 compute, 3: what is at hand, bit for bit; the reference's.
-/
import Derived.Test.YthnaeifkngeenaaPostC2
set_option linter.unusedVariables false
set_option linter.unusedSimpArgs false
set_option maxRecDepth 10000
namespace Go.Am.Post
open Go.Am.G

theorem zeros_u (n : Nat) : zerosL [.int .u64 0] n = nats (List.replicate n 0) := by
  unfold zerosL
  apply List.ext_getElem (by simp)
  intro i h1 h2
  simp [Nat.mod_one]
theorem hloop_length (s : List Int) (n : Nat) : ∀ (k : Nat) (h : List Nat), (hloop s n k h).length = h.length := by
  induction n with
  | zero => intro k h; rfl
  | succ n ih =>
    intro k h
    rw [hloop, ih, hstep]
    split <;> simp [hset_length]
theorem handsV_length (s : List Int) : (handsV s).length = s.length := by rw [handsV, hloop_length]; simp
/-- A shore that is checked. -/
structure OkS (s : List Int) : Prop where
  pos : 0 < s.length
  le : s.length ≤ 10
  h0 : s.getD 0 0 = -1
  hi : ∀ i, 0 < i → i < s.length → 0 ≤ s.getD i 0 ∧ s.getD i 0 < i
theorem anyBad_ok : ∀ (l : List Int) (i : Nat), anyBad i l = false → ∀ j, 0 < i + j → j < l.length → 0 ≤ l.getD j 0 ∧ l.getD j 0 < ((i + j : Nat) : Int)
  | [], i, _, j, _, h => by simp at h
  | x :: r, i, h, j, h0, hj => by
    rw [anyBad, Bool.or_eq_false_iff] at h
    cases j with
    | zero =>
      have := h.1
      rw [Bool.eq_false_iff] at this
      have h3 : ¬ (0 < i ∧ (x < 0 ∨ (i : Int) ≤ x)) := fun c => this ((badAt_of _ _).2 c)
      simp
      constructor
      · by_cases c : x < 0
        · exact absurd ⟨by omega, .inl c⟩ h3
        · omega
      · by_cases c : (i : Int) ≤ x
        · exact absurd ⟨by omega, .inr c⟩ h3
        · omega
    | succ j =>
      have := anyBad_ok r (i + 1) h.2 j (by omega) (by simpa using hj)
      rw [List.getD_cons_succ]
      rw [show i + (j + 1) = i + 1 + j by omega]
      exact this
theorem okS_of {s : List Int} (h : chkS s = 0) : OkS s := by
  unfold chkS at h
  split at h
  · omega
  · rename_i h1
    split at h
    · omega
    · rename_i h2
      split at h
      · omega
      · rename_i h3
        split at h
        · omega
        · rename_i h4
          refine ⟨by omega, by omega, by simpa using h3, fun i h0 hi => ?_⟩
          have := anyBad_ok s 0 (by simpa using h4) i (by omega) hi
          simpa using this
theorem OkS.lt {s : List Int} (K : OkS s) (v : Nat) (hv : v < s.length) : s.getD v 0 < (s.length : Int) := by
  by_cases h : v = 0
  · subst h; rw [K.h0]; have := K.pos; omega
  · have := (K.hi v (by omega) hv).2; omega
abbrev UH (h : List Nat) : LV := .lst false true 1 h.length (nats h)
theorem hands_c (nl ex : Bool) (sz : Nat) {s : List Int} (K : OkS s) (m : LMem) : clF LP n_post_hands [IL nl ex sz s] m = some (.P, UH (handsV s), m) := by
  have h10 := K.le
  have h := hands_loop nl ex sz s s.length rfl K.le K.lt s.length 0 (List.replicate s.length 0) (by omega) (by simp) (by
    intro i
    simp only [List.getD_eq_getElem?_getD, List.getElem?_replicate]
    split <;> simp)
  simp only [Int.natCast_zero] at h
  change exF LP post_hands.L0 _ _ = some (.exit 0, _, [⟨nats (handsV s), true⟩]) at h
  have hv : view 40 [⟨nats (handsV s), true⟩] (.sl 0 0 s.length s.length 0 1 s.length) = some (UH (handsV s), [0]) := by
    have := view_slc 37 [⟨nats (handsV s), true⟩] 0 0 s.length s.length 0 s.length 1 (nats (handsV s)) true rfl (by rw [List.drop_zero, List.take_of_length_le (by simp [handsV_length])]; exact pures_nats _) (by simp [handsV_length]) (by omega) (by omega)
    rw [this, List.drop_zero, List.take_of_length_le (by simp [handsV_length])]
    simp [nbeq, handsV_length]
  have r1 : s.length * 8 ≤ roomMost := by unfold roomMost; omega
  have r2 : s.length ≤ roomMost := by unfold roomMost; omega
  refine call_Pv lp_post_hands rfl (by simp [LV.pures, LV.pure]) ?_ hv m
  simp only [post_hands, post_hands.B, beqT, beqF, exF_seq, exF_region, exF_block, exF_cond, exF_ret, exF_exit, exF_skip, runL, wantL, stepL, evL, LEnv.at, putL, loadFine, loadL, cellsAt, Trk.putNew, Trk.up, Trk.touch, Trk.gives, Trk.calm, Trk.hit, opdsOf, Trk.fresh, LEnv.keep, LEnv.ofFrom, List.map_cons, List.map_nil, nbeq, nble, nblt, ofAV, ofAVs, lenL, bin_add, bin_sub, bin_mul, bin_eql, bin_neq, bin_lss, bin_leq, bin_gtr, bin_geq, natL_nat, natL_zero, natL_one, natL_two, Nat.zero_mul, List.any_cons, List.any_nil, Bool.or_false, Bool.false_or, Bool.true_or, Bool.or_true, Bool.and_true, Bool.true_and, Bool.and_false, Bool.false_and, Bool.not_true, Bool.not_false, Nat.reduceBEq, Nat.reduceEqDiff, decide_true, decide_false, cond_true, cond_false, List.filter_nil, List.filter_cons, Nat.reduceAdd, Nat.reduceLeDiff, reduceCtorEq, List.length_nil, List.length_cons, Nat.mul_one, if_true, if_false, Bool.false_eq_true, eq_self, and_true, true_and, retL, resultsL, resAllL, resOfL, List.append_nil, List.nil_append, List.cons_append, true_or, or_true, false_or, or_false, false_and, and_false, not_true_eq_false, not_false_eq_true, ne_eq, unL, trim_nil, views_pures, LV.pures, LV.pure, freeze, Nat.reduceDiv, Int.reduceEq, Int.reduceLT, Int.reduceLE, Int.natCast_zero, LV.cells, allocL, List.getElem?_cons_zero, List.getElem?_cons_succ, storeL, spliceL, List.take_zero, List.take_succ_cons, List.drop_zero, List.drop_succ_cons, List.drop_nil, List.take_nil, Nat.le_refl, Nat.reduceMul, List.set_cons_zero, List.set_cons_succ, LV.scalar, List.all_cons, List.all_nil, Nat.lt_add_one, Nat.zero_lt_one, Nat.reduceLT, Nat.lt_irrefl, fillL, List.length_append, foldIntL, kind_beq, pures_int, solids_int, plains_int, unders_int, scalars_int, r1, r2, zeros_u, h]

/-! ### Bit for bit -/
def nb (s : List Int) (v u : Nat) : Bool := decide (u = v) || (decide (s.getD u 0 = v) || decide (s.getD v 0 = u))
def PB (s : List Int) (k : Nat) (h : List Nat) : Prop := ∀ v, v < s.length → ∀ u, ((h.getD v 0).testBit u = true ↔ (u = v ∧ v < k) ∨ (v < k ∧ s.getD v 0 = u) ∨ (u < k ∧ s.getD u 0 = v))
theorem hstep_bit {s : List Int} (K : OkS s) (k : Nat) (hk : k < s.length) (h : List Nat) (hl : h.length = s.length) (H : PB s k h) : PB s (k + 1) (hstep s k h) := by
  intro v hv u
  have e := H v hv u
  unfold hstep
  by_cases h0 : 0 ≤ s.getD k 0
  · obtain ⟨b, hb⟩ := Int.eq_ofNat_of_zero_le h0
    have hkp : 0 < k := by
      by_cases c : k = 0
      · subst c; rw [K.h0] at hb; omega
      · omega
    have hbk : b < k := by have := (K.hi k hkp hk).2; omega
    rw [if_pos h0, hb, Int.toNat_natCast]
    simp only [getD_hset, hset_length, hl, show b < s.length by omega, hk, and_true, show ¬ b = k by omega, if_false, if_true]
    by_cases c1 : v = b
    · subst c1
      simp only [if_true, show ¬ v = k by omega, if_false, Nat.testBit_or, Nat.testBit_two_pow, Bool.or_eq_true, decide_eq_true_eq, e]
      constructor
      · rintro (h | rfl)
        · omega
        · right; right; exact ⟨by omega, hb⟩
      · rintro (⟨rfl, _⟩ | ⟨h1, h2⟩ | ⟨h1, h2⟩)
        · left; left; exact ⟨rfl, hbk⟩
        · left; right; left; exact ⟨hbk, h2⟩
        · by_cases c : u = k
          · right; exact c.symm
          · left; right; right; exact ⟨by omega, h2⟩
    · by_cases c2 : v = k
      · subst c2
        simp only [if_neg c1, if_true, Nat.testBit_or, Nat.testBit_two_pow, Bool.or_eq_true, decide_eq_true_eq, e]
        constructor
        · rintro ((h | rfl) | rfl)
          · omega
          · left; exact ⟨rfl, by omega⟩
          · right; left; exact ⟨by omega, hb⟩
        · rintro (⟨rfl, _⟩ | ⟨h1, h2⟩ | ⟨h1, h2⟩)
          · left; right; rfl
          · right; omega
          · by_cases c : u = v
            · subst c; omega
            · left; left; right; right; exact ⟨by omega, h2⟩
      · simp only [if_neg c1, if_neg c2, e]
        constructor
        · rintro (h | h | h) <;> omega
        · rintro (⟨rfl, _⟩ | ⟨h1, h2⟩ | ⟨h1, h2⟩)
          · left; exact ⟨rfl, by omega⟩
          · right; left; exact ⟨by omega, h2⟩
          · by_cases c : u = k
            · subst c; omega
            · right; right; exact ⟨by omega, h2⟩
  · have hk0 : k = 0 := by
      by_cases c : k = 0
      · exact c
      · exact absurd (K.hi k (by omega) hk).1 h0
    subst hk0
    rw [if_neg h0, getD_hset]
    have h00 := K.h0
    by_cases c2 : v = 0
    · subst c2
      simp only [hl, hk, and_self, if_true, Nat.testBit_or, Nat.testBit_two_pow, Bool.or_eq_true, decide_eq_true_eq, e]
      constructor
      · rintro (h | rfl) <;> omega
      · rintro (⟨rfl, _⟩ | ⟨h1, h2⟩ | ⟨h1, h2⟩)
        · right; rfl
        · omega
        · have : u = 0 := by omega
          subst this; omega
    · simp only [c2, false_and, if_false, e]
      constructor
      · rintro (h | h | h) <;> omega
      · rintro (⟨rfl, _⟩ | ⟨h1, h2⟩ | ⟨h1, h2⟩)
        · omega
        · omega
        · have : u = 0 := by omega
          subst this; omega
theorem hstep_length (s : List Int) (k : Nat) (h : List Nat) : (hstep s k h).length = h.length := by
  unfold hstep; split <;> simp [hset_length]
theorem hloop_bit {s : List Int} (K : OkS s) (n : Nat) : ∀ k h, k + n = s.length → h.length = s.length → PB s k h → PB s s.length (hloop s n k h) := by
  induction n with
  | zero => intro k h hk hl H; rw [show s.length = k by omega]; exact H
  | succ n ih =>
    intro k h hk hl H
    exact ih (k + 1) _ (by omega) (by rw [hstep_length, hl]) (hstep_bit K k (by omega) h hl H)
theorem hands_bit {s : List Int} (K : OkS s) {v : Nat} (hv : v < s.length) (u : Nat) : ((handsV s).getD v 0).testBit u = (nb s v u && decide (u < s.length)) := by
  have := hloop_bit K s.length 0 (List.replicate s.length 0) (by omega) (by simp) (by
    intro v hv u
    have : (List.replicate s.length 0).getD v 0 = 0 := by simp [List.getD_eq_getElem?_getD, List.getElem?_replicate]; split <;> rfl
    rw [this]; simp) v hv u
  rw [Bool.eq_iff_iff]
  unfold handsV
  rw [this]
  simp only [nb, Bool.and_eq_true, Bool.or_eq_true, decide_eq_true_eq]
  constructor
  · rintro (⟨rfl, h⟩ | ⟨_, h⟩ | ⟨h1, h2⟩)
    · exact ⟨.inl rfl, hv⟩
    · have := K.lt v hv
      exact ⟨.inr (.inr h), by omega⟩
    · exact ⟨.inr (.inl h2), h1⟩
  · rintro ⟨rfl | h | h, hu⟩
    · exact .inl ⟨rfl, hv⟩
    · exact .inr (.inr ⟨hu, h⟩)
    · exact .inr (.inl ⟨hv, h⟩)
theorem hands_lt {s : List Int} (K : OkS s) (v : Nat) : (handsV s).getD v 0 < 1024 := by
  by_cases hv : v < s.length
  · refine Nat.lt_pow_two_of_testBit (n := 10) _ fun i hi => ?_
    rw [hands_bit K hv]
    have := K.le
    have h1 : decide (i < s.length) = false := by simp; omega
    rw [h1, Bool.and_false]
  · have : (handsV s).getD v 0 = 0 := by
      rw [List.getD_eq_getElem?_getD, List.getElem?_eq_none (by rw [handsV_length]; omega)]; rfl
    omega

/-! ### The reference's -/
def handR (s : List Int) (p k n : Nat) : List Nat := (List.range' k n).filter fun i => nb s p i
def handL (s : List Int) (p : Nat) : List Nat := handR s p 0 s.length
theorem handR_succ (s : List Int) (p k n : Nat) : handR s p k (n + 1) = (if nb s p k then [k] else []) ++ handR s p (k + 1) n := by
  unfold handR
  rw [List.range'_succ, List.filter_cons]
  split <;> rfl
theorem rhand_loop (nl ex : Bool) (sz : Nat) (s : List Int) (hl : s.length ≤ 10) (p : Nat) (hp : p < s.length) (n : Nat) : ∀ (k : Nat) (l : List Nat), k + n = s.length → l.length ≤ k →
    exF LP ref12_hand.L0 [(0, IL nl ex sz s), (1, .int .i64 (p : Int)), (5, GV 0 (ci l)), (6, .int .i64 (k : Int))] (GM (ci l)) = some (.exit 0, [(5, GV 0 (ci (l ++ handR s p k n)))], GM (ci (l ++ handR s p k n))) := by
  induction n with
  | zero =>
    intro k l hk hll
    rw [ref12_hand.L0_eq]
    simp only [ref12_hand.B0, beqT, beqF, exF_seq, exF_region, exF_block, exF_cond, exF_ret, exF_exit, exF_skip, runL, wantL, stepL, evL, LEnv.at, putL, loadFine, loadL, cellsAt, Trk.putNew, Trk.up, Trk.touch, Trk.gives, Trk.calm, Trk.hit, opdsOf, Trk.fresh, LEnv.keep, LEnv.ofFrom, List.map_cons, List.map_nil, nbeq, nble, nblt, ofAV, ofAVs, lenL, bin_add, bin_sub, bin_mul, bin_eql, bin_neq, bin_lss, bin_leq, bin_gtr, bin_geq, natL_nat, natL_zero, natL_one, natL_two, Nat.zero_mul, List.any_cons, List.any_nil, Bool.or_false, Bool.false_or, Bool.true_or, Bool.or_true, Bool.and_true, Bool.true_and, Bool.and_false, Bool.false_and, Bool.not_true, Bool.not_false, Nat.reduceBEq, Nat.reduceEqDiff, decide_true, decide_false, cond_true, cond_false, List.filter_nil, List.filter_cons, Nat.reduceAdd, Nat.reduceLeDiff, reduceCtorEq, List.length_nil, List.length_cons, Nat.mul_one, if_true, if_false, Bool.false_eq_true, eq_self, and_true, true_and, retL, resultsL, resAllL, resOfL, List.append_nil, List.nil_append, List.cons_append, true_or, or_true, false_or, or_false, false_and, and_false, not_true_eq_false, not_false_eq_true, ne_eq, unL, trim_nil, views_pures, LV.pures, LV.pure, freeze, Nat.reduceDiv, Int.reduceEq, Int.reduceLT, Int.reduceLE, Int.natCast_zero, LV.cells, allocL, List.getElem?_cons_zero, List.getElem?_cons_succ, storeL, spliceL, List.take_zero, List.take_succ_cons, List.drop_zero, List.drop_succ_cons, List.drop_nil, List.take_nil, Nat.le_refl, Nat.reduceMul, List.set_cons_zero, List.set_cons_succ, LV.scalar, List.all_cons, List.all_nil, Nat.lt_add_one, Nat.zero_lt_one, Nat.reduceLT, Nat.lt_irrefl, fillL, List.length_append, foldIntL, kind_beq, pures_int, solids_int, plains_int, unders_int, scalars_int, show ¬ ((k : Int) < (s.length : Int)) by omega, handR, List.range'_zero]
  | succ n ih =>
    intro k l hk hll
    have h2 : k < s.length := by omega
    have hgk : s[k] = s.getD k 0 := by simp [List.getD_eq_getElem?_getD, h2]
    have hgp : s[p] = s.getD p 0 := by simp [List.getD_eq_getElem?_getD, hp]
    rw [ref12_hand.L0_eq, handR_succ]
    have ih1 := ih (k + 1) (l ++ [k]) (by omega) (by simp; omega)
    have ih2 := ih (k + 1) l (by omega) (by omega)
    have e : ci (l ++ [k]) = ci l ++ [(k : Int)] := by simp
    have ap := append_grow0 (ci l) (k : Int) true (by simp; omega)
    rw [← e] at ap
    rw [List.append_assoc] at ih1
    by_cases c1 : k = p
    · subst c1
      have hb : nb s k k = true := by simp [nb]
      rw [hb, if_pos rfl]
      simp only [ref12_hand.B0, beqT, beqF, exF_seq, exF_region, exF_block, exF_cond, exF_ret, exF_exit, exF_skip, runL, wantL, stepL, evL, LEnv.at, putL, loadFine, loadL, cellsAt, Trk.putNew, Trk.up, Trk.touch, Trk.gives, Trk.calm, Trk.hit, opdsOf, Trk.fresh, LEnv.keep, LEnv.ofFrom, List.map_cons, List.map_nil, nbeq, nble, nblt, ofAV, ofAVs, lenL, bin_add, bin_sub, bin_mul, bin_eql, bin_neq, bin_lss, bin_leq, bin_gtr, bin_geq, natL_nat, natL_zero, natL_one, natL_two, Nat.zero_mul, List.any_cons, List.any_nil, Bool.or_false, Bool.false_or, Bool.true_or, Bool.or_true, Bool.and_true, Bool.true_and, Bool.and_false, Bool.false_and, Bool.not_true, Bool.not_false, Nat.reduceBEq, Nat.reduceEqDiff, decide_true, decide_false, cond_true, cond_false, List.filter_nil, List.filter_cons, Nat.reduceAdd, Nat.reduceLeDiff, reduceCtorEq, List.length_nil, List.length_cons, Nat.mul_one, if_true, if_false, Bool.false_eq_true, eq_self, and_true, true_and, retL, resultsL, resAllL, resOfL, List.append_nil, List.nil_append, List.cons_append, true_or, or_true, false_or, or_false, false_and, and_false, not_true_eq_false, not_false_eq_true, ne_eq, unL, trim_nil, views_pures, LV.pures, LV.pure, freeze, Nat.reduceDiv, Int.reduceEq, Int.reduceLT, Int.reduceLE, Int.natCast_zero, LV.cells, allocL, List.getElem?_cons_zero, List.getElem?_cons_succ, storeL, spliceL, List.take_zero, List.take_succ_cons, List.drop_zero, List.drop_succ_cons, List.drop_nil, List.take_nil, Nat.le_refl, Nat.reduceMul, List.set_cons_zero, List.set_cons_succ, LV.scalar, List.all_cons, List.all_nil, Nat.lt_add_one, Nat.zero_lt_one, Nat.reduceLT, Nat.lt_irrefl, fillL, List.length_append, foldIntL, kind_beq, pures_int, solids_int, plains_int, unders_int, scalars_int, show ((k : Int) < (s.length : Int)) by omega, ap, wrap_succ (show k + 1 < 9223372036854775808 by omega), ih1]
    · have c1' : ¬ (k : Int) = (p : Int) := by omega
      by_cases c2 : s.getD k 0 = (p : Int)
      · have hb : nb s p k = true := by simp only [nb, c2]; simp
        rw [hb, if_pos rfl]
        simp only [ref12_hand.B0, beqT, beqF, exF_seq, exF_region, exF_block, exF_cond, exF_ret, exF_exit, exF_skip, runL, wantL, stepL, evL, LEnv.at, putL, loadFine, loadL, cellsAt, Trk.putNew, Trk.up, Trk.touch, Trk.gives, Trk.calm, Trk.hit, opdsOf, Trk.fresh, LEnv.keep, LEnv.ofFrom, List.map_cons, List.map_nil, nbeq, nble, nblt, ofAV, ofAVs, lenL, bin_add, bin_sub, bin_mul, bin_eql, bin_neq, bin_lss, bin_leq, bin_gtr, bin_geq, natL_nat, natL_zero, natL_one, natL_two, Nat.zero_mul, List.any_cons, List.any_nil, Bool.or_false, Bool.false_or, Bool.true_or, Bool.or_true, Bool.and_true, Bool.true_and, Bool.and_false, Bool.false_and, Bool.not_true, Bool.not_false, Nat.reduceBEq, Nat.reduceEqDiff, decide_true, decide_false, cond_true, cond_false, List.filter_nil, List.filter_cons, Nat.reduceAdd, Nat.reduceLeDiff, reduceCtorEq, List.length_nil, List.length_cons, Nat.mul_one, if_true, if_false, Bool.false_eq_true, eq_self, and_true, true_and, retL, resultsL, resAllL, resOfL, List.append_nil, List.nil_append, List.cons_append, true_or, or_true, false_or, or_false, false_and, and_false, not_true_eq_false, not_false_eq_true, ne_eq, unL, trim_nil, views_pures, LV.pures, LV.pure, freeze, Nat.reduceDiv, Int.reduceEq, Int.reduceLT, Int.reduceLE, Int.natCast_zero, LV.cells, allocL, List.getElem?_cons_zero, List.getElem?_cons_succ, storeL, spliceL, List.take_zero, List.take_succ_cons, List.drop_zero, List.drop_succ_cons, List.drop_nil, List.take_nil, Nat.le_refl, Nat.reduceMul, List.set_cons_zero, List.set_cons_succ, LV.scalar, List.all_cons, List.all_nil, Nat.lt_add_one, Nat.zero_lt_one, Nat.reduceLT, Nat.lt_irrefl, fillL, List.length_append, foldIntL, kind_beq, pures_int, solids_int, plains_int, unders_int, scalars_int, show ((k : Int) < (s.length : Int)) by omega, c1', h2, int_at _ _ _ h2, hgk, c2, ap, wrap_succ (show k + 1 < 9223372036854775808 by omega), ih1]
      · by_cases c3 : s.getD p 0 = (k : Int)
        · have hb : nb s p k = true := by simp only [nb, c3]; simp
          rw [hb, if_pos rfl]
          simp only [ref12_hand.B0, beqT, beqF, exF_seq, exF_region, exF_block, exF_cond, exF_ret, exF_exit, exF_skip, runL, wantL, stepL, evL, LEnv.at, putL, loadFine, loadL, cellsAt, Trk.putNew, Trk.up, Trk.touch, Trk.gives, Trk.calm, Trk.hit, opdsOf, Trk.fresh, LEnv.keep, LEnv.ofFrom, List.map_cons, List.map_nil, nbeq, nble, nblt, ofAV, ofAVs, lenL, bin_add, bin_sub, bin_mul, bin_eql, bin_neq, bin_lss, bin_leq, bin_gtr, bin_geq, natL_nat, natL_zero, natL_one, natL_two, Nat.zero_mul, List.any_cons, List.any_nil, Bool.or_false, Bool.false_or, Bool.true_or, Bool.or_true, Bool.and_true, Bool.true_and, Bool.and_false, Bool.false_and, Bool.not_true, Bool.not_false, Nat.reduceBEq, Nat.reduceEqDiff, decide_true, decide_false, cond_true, cond_false, List.filter_nil, List.filter_cons, Nat.reduceAdd, Nat.reduceLeDiff, reduceCtorEq, List.length_nil, List.length_cons, Nat.mul_one, if_true, if_false, Bool.false_eq_true, eq_self, and_true, true_and, retL, resultsL, resAllL, resOfL, List.append_nil, List.nil_append, List.cons_append, true_or, or_true, false_or, or_false, false_and, and_false, not_true_eq_false, not_false_eq_true, ne_eq, unL, trim_nil, views_pures, LV.pures, LV.pure, freeze, Nat.reduceDiv, Int.reduceEq, Int.reduceLT, Int.reduceLE, Int.natCast_zero, LV.cells, allocL, List.getElem?_cons_zero, List.getElem?_cons_succ, storeL, spliceL, List.take_zero, List.take_succ_cons, List.drop_zero, List.drop_succ_cons, List.drop_nil, List.take_nil, Nat.le_refl, Nat.reduceMul, List.set_cons_zero, List.set_cons_succ, LV.scalar, List.all_cons, List.all_nil, Nat.lt_add_one, Nat.zero_lt_one, Nat.reduceLT, Nat.lt_irrefl, fillL, List.length_append, foldIntL, kind_beq, pures_int, solids_int, plains_int, unders_int, scalars_int, show ((k : Int) < (s.length : Int)) by omega, c1', h2, int_at _ _ _ h2, hgk, c2, hp, int_at _ _ _ hp, hgp, c3, ap, wrap_succ (show k + 1 < 9223372036854775808 by omega), ih1]
        · have hb : nb s p k = false := by simp only [nb, c1, c2, c3]; simp
          rw [hb, if_neg (by simp), List.nil_append]
          simp only [ref12_hand.B0, beqT, beqF, exF_seq, exF_region, exF_block, exF_cond, exF_ret, exF_exit, exF_skip, runL, wantL, stepL, evL, LEnv.at, putL, loadFine, loadL, cellsAt, Trk.putNew, Trk.up, Trk.touch, Trk.gives, Trk.calm, Trk.hit, opdsOf, Trk.fresh, LEnv.keep, LEnv.ofFrom, List.map_cons, List.map_nil, nbeq, nble, nblt, ofAV, ofAVs, lenL, bin_add, bin_sub, bin_mul, bin_eql, bin_neq, bin_lss, bin_leq, bin_gtr, bin_geq, natL_nat, natL_zero, natL_one, natL_two, Nat.zero_mul, List.any_cons, List.any_nil, Bool.or_false, Bool.false_or, Bool.true_or, Bool.or_true, Bool.and_true, Bool.true_and, Bool.and_false, Bool.false_and, Bool.not_true, Bool.not_false, Nat.reduceBEq, Nat.reduceEqDiff, decide_true, decide_false, cond_true, cond_false, List.filter_nil, List.filter_cons, Nat.reduceAdd, Nat.reduceLeDiff, reduceCtorEq, List.length_nil, List.length_cons, Nat.mul_one, if_true, if_false, Bool.false_eq_true, eq_self, and_true, true_and, retL, resultsL, resAllL, resOfL, List.append_nil, List.nil_append, List.cons_append, true_or, or_true, false_or, or_false, false_and, and_false, not_true_eq_false, not_false_eq_true, ne_eq, unL, trim_nil, views_pures, LV.pures, LV.pure, freeze, Nat.reduceDiv, Int.reduceEq, Int.reduceLT, Int.reduceLE, Int.natCast_zero, LV.cells, allocL, List.getElem?_cons_zero, List.getElem?_cons_succ, storeL, spliceL, List.take_zero, List.take_succ_cons, List.drop_zero, List.drop_succ_cons, List.drop_nil, List.take_nil, Nat.le_refl, Nat.reduceMul, List.set_cons_zero, List.set_cons_succ, LV.scalar, List.all_cons, List.all_nil, Nat.lt_add_one, Nat.zero_lt_one, Nat.reduceLT, Nat.lt_irrefl, fillL, List.length_append, foldIntL, kind_beq, pures_int, solids_int, plains_int, unders_int, scalars_int, show ((k : Int) < (s.length : Int)) by omega, c1', h2, int_at _ _ _ h2, hgk, c2, hp, int_at _ _ _ hp, hgp, c3, wrap_succ (show k + 1 < 9223372036854775808 by omega), ih2]
theorem rhand_c (nl ex : Bool) (sz : Nat) (s : List Int) (hl : s.length ≤ 10) (p : Nat) (hp : p < s.length) (m : LMem) : clF LP n_ref12_hand [IL nl ex sz s, .int .i64 (p : Int)] m = some (.P, RL (ci (handL s p)), m) := by
  have h := rhand_loop nl ex sz s hl p hp s.length 0 [] (by omega) (by simp)
  rw [List.nil_append] at h
  simp only [Int.natCast_zero] at h
  have h : exF LP ref12_hand.L0 [(0, IL nl ex sz s), (1, .int .i64 (p : Int)), (5, .lst true true 0 0 []), (6, .int .i64 0)] [] = some (.exit 0, [(5, GV 0 (ci (handL s p)))], GM (ci (handL s p))) := h
  refine call_Pv lp_ref12_hand rfl (by simp [LV.pures, LV.pure]) ?_ (view_grow0 37 (ci (handL s p))) m
  simp only [ref12_hand, ref12_hand.B, beqT, beqF, exF_seq, exF_region, exF_block, exF_cond, exF_ret, exF_exit, exF_skip, runL, wantL, stepL, evL, LEnv.at, putL, loadFine, loadL, cellsAt, Trk.putNew, Trk.up, Trk.touch, Trk.gives, Trk.calm, Trk.hit, opdsOf, Trk.fresh, LEnv.keep, LEnv.ofFrom, List.map_cons, List.map_nil, nbeq, nble, nblt, ofAV, ofAVs, lenL, bin_add, bin_sub, bin_mul, bin_eql, bin_neq, bin_lss, bin_leq, bin_gtr, bin_geq, natL_nat, natL_zero, natL_one, natL_two, Nat.zero_mul, List.any_cons, List.any_nil, Bool.or_false, Bool.false_or, Bool.true_or, Bool.or_true, Bool.and_true, Bool.true_and, Bool.and_false, Bool.false_and, Bool.not_true, Bool.not_false, Nat.reduceBEq, Nat.reduceEqDiff, decide_true, decide_false, cond_true, cond_false, List.filter_nil, List.filter_cons, Nat.reduceAdd, Nat.reduceLeDiff, reduceCtorEq, List.length_nil, List.length_cons, Nat.mul_one, if_true, if_false, Bool.false_eq_true, eq_self, and_true, true_and, retL, resultsL, resAllL, resOfL, List.append_nil, List.nil_append, List.cons_append, true_or, or_true, false_or, or_false, false_and, and_false, not_true_eq_false, not_false_eq_true, ne_eq, unL, trim_nil, views_pures, LV.pures, LV.pure, freeze, Nat.reduceDiv, Int.reduceEq, Int.reduceLT, Int.reduceLE, Int.natCast_zero, LV.cells, allocL, List.getElem?_cons_zero, List.getElem?_cons_succ, storeL, spliceL, List.take_zero, List.take_succ_cons, List.drop_zero, List.drop_succ_cons, List.drop_nil, List.take_nil, Nat.le_refl, Nat.reduceMul, List.set_cons_zero, List.set_cons_succ, LV.scalar, List.all_cons, List.all_nil, Nat.lt_add_one, Nat.zero_lt_one, Nat.reduceLT, Nat.lt_irrefl, fillL, List.length_append, foldIntL, kind_beq, pures_int, solids_int, plains_int, unders_int, scalars_int, h]
end Go.Am.Post

