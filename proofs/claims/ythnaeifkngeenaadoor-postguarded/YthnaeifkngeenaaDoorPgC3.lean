import Derived.Test.YthnaeifkngeenaaDoorPgC1
/-
  What functions of chapter 12 compute, 3: what is at hand, bit for bit; the reference's.
-/
set_option linter.unusedVariables false
set_option linter.unusedSimpArgs false
set_option maxRecDepth 10000
namespace Go.Am.Post
open Go.Am.G

theorem zeros_u (n : Nat) : zerosL [.int .u64 0] n = nats (List.replicate n 0) := by
  unfold zerosL
  apply List.ext_getElem (by simp)
  intro i h1 h2
  simp [Nat.mod_one]
theorem hloop_length (s : List Int) (n : Nat) : ∀ (k : Nat) (h : List Nat), (hloop s n k h).length = h.length := by
  induction n with
  | zero => intro k h; rfl
  | succ n ih =>
    intro k h
    rw [hloop, ih, hstep]
    split <;> simp [hset_length]
theorem handsV_length (s : List Int) : (handsV s).length = s.length := by rw [handsV, hloop_length]; simp
/-- A shore that is checked. -/
structure OkS (s : List Int) : Prop where
  pos : 0 < s.length
  le : s.length ≤ 10
  h0 : s.getD 0 0 = -1
  hi : ∀ i, 0 < i → i < s.length → 0 ≤ s.getD i 0 ∧ s.getD i 0 < i
theorem anyBad_ok : ∀ (l : List Int) (i : Nat), anyBad i l = false → ∀ j, 0 < i + j → j < l.length → 0 ≤ l.getD j 0 ∧ l.getD j 0 < ((i + j : Nat) : Int)
  | [], i, _, j, _, h => by simp at h
  | x :: r, i, h, j, h0, hj => by
    rw [anyBad, Bool.or_eq_false_iff] at h
    cases j with
    | zero =>
      have := h.1
      rw [Bool.eq_false_iff] at this
      have h3 : ¬ (0 < i ∧ (x < 0 ∨ (i : Int) ≤ x)) := fun c => this ((badAt_of _ _).2 c)
      simp
      constructor
      · by_cases c : x < 0
        · exact absurd ⟨by omega, .inl c⟩ h3
        · omega
      · by_cases c : (i : Int) ≤ x
        · exact absurd ⟨by omega, .inr c⟩ h3
        · omega
    | succ j =>
      have := anyBad_ok r (i + 1) h.2 j (by omega) (by simpa using hj)
      rw [List.getD_cons_succ]
      rw [show i + (j + 1) = i + 1 + j by omega]
      exact this
theorem okS_of {s : List Int} (h : chkS s = 0) : OkS s := by
  unfold chkS at h
  split at h
  · omega
  · rename_i h1
    split at h
    · omega
    · rename_i h2
      split at h
      · omega
      · rename_i h3
        split at h
        · omega
        · rename_i h4
          refine ⟨by omega, by omega, by simpa using h3, fun i h0 hi => ?_⟩
          have := anyBad_ok s 0 (by simpa using h4) i (by omega) hi
          simpa using this
theorem OkS.lt {s : List Int} (K : OkS s) (v : Nat) (hv : v < s.length) : s.getD v 0 < (s.length : Int) := by
  by_cases h : v = 0
  · subst h; rw [K.h0]; have := K.pos; omega
  · have := (K.hi v (by omega) hv).2; omega
abbrev UH (h : List Nat) : LV := .lst false true 1 h.length (nats h)
theorem hands_c (nl ex : Bool) (sz : Nat) {s : List Int} (K : OkS s) (m : LMem) : clF LP n_post_hands [IL nl ex sz s] m = some (.P, UH (handsV s), m) := by
  have h10 := K.le
  have h := hands_loop nl ex sz s s.length rfl K.le K.lt s.length 0 (List.replicate s.length 0) (by omega) (by simp) (by
    intro i
    simp only [List.getD_eq_getElem?_getD, List.getElem?_replicate]
    split <;> simp)
  simp only [Int.natCast_zero] at h
  change exF LP post_hands.L0 _ _ = some (.exit 0, _, [⟨nats (handsV s), true⟩]) at h
  have hv : view 40 [⟨nats (handsV s), true⟩] (.sl 0 0 s.length s.length 0 1 s.length) = some (UH (handsV s), [0]) := by
    have := view_slc 37 [⟨nats (handsV s), true⟩] 0 0 s.length s.length 0 s.length 1 (nats (handsV s)) true rfl (by rw [List.drop_zero, List.take_of_length_le (by simp [handsV_length])]; exact pures_nats _) (by simp [handsV_length]) (by omega) (by omega)
    rw [this, List.drop_zero, List.take_of_length_le (by simp [handsV_length])]
    simp [nbeq, handsV_length]
  have r1 : s.length * 8 ≤ roomMost := by unfold roomMost; omega
  have r2 : s.length ≤ roomMost := by unfold roomMost; omega
  refine call_Pv lp_post_hands rfl (by simp [LV.pures, LV.pure]) ?_ hv m
  simp only [post_hands, post_hands.B, beqT, beqF, exF_seq, exF_region, exF_block, exF_cond, exF_ret, exF_exit, exF_skip, runL, wantL, stepL, evL, evC, LEnv.at, putL, loadFine, loadL, cellsAt, Trk.putNew, Trk.up, Trk.touch, Trk.gives, Trk.calm, Trk.hit, opdsOf, Trk.fresh, LEnv.keep, LEnv.ofFrom, List.map_cons, List.map_nil, nbeq, nble, nblt, ofAV, ofAVs, lenL, bin_add, bin_sub, bin_mul, bin_eql, bin_neq, bin_lss, bin_leq, bin_gtr, bin_geq, natL_nat, natL_zero, natL_one, natL_two, Nat.zero_mul, List.any_cons, List.any_nil, Bool.or_false, Bool.false_or, Bool.true_or, Bool.or_true, Bool.and_true, Bool.true_and, Bool.and_false, Bool.false_and, Bool.not_true, Bool.not_false, Nat.reduceBEq, Nat.reduceEqDiff, decide_true, decide_false, cond_true, cond_false, List.filter_nil, List.filter_cons, Nat.reduceAdd, Nat.reduceLeDiff, reduceCtorEq, List.length_nil, List.length_cons, Nat.mul_one, if_true, if_false, Bool.false_eq_true, eq_self, and_true, true_and, retL, resultsL, resAllL, resOfL, List.append_nil, List.nil_append, List.cons_append, true_or, or_true, false_or, or_false, false_and, and_false, not_true_eq_false, not_false_eq_true, ne_eq, unL, trim_nil, views_pures, LV.pures, LV.pure, freeze, Nat.reduceDiv, Int.reduceEq, Int.reduceLT, Int.reduceLE, Int.natCast_zero, LV.cells, allocL, List.getElem?_cons_zero, List.getElem?_cons_succ, storeL, spliceL, List.take_zero, List.take_succ_cons, List.drop_zero, List.drop_succ_cons, List.drop_nil, List.take_nil, Nat.le_refl, Nat.reduceMul, List.set_cons_zero, List.set_cons_succ, LV.scalar, List.all_cons, List.all_nil, Nat.lt_add_one, Nat.zero_lt_one, Nat.reduceLT, Nat.lt_irrefl, fillL, List.length_append, foldIntL, kind_beq, pures_int, solids_int, plains_int, unders_int, scalars_int, r1, r2, zeros_u, h]

/-! ### Bit for bit -/
def nb (s : List Int) (v u : Nat) : Bool := decide (u = v) || (decide (s.getD u 0 = v) || decide (s.getD v 0 = u))
def PB (s : List Int) (k : Nat) (h : List Nat) : Prop := ∀ v, v < s.length → ∀ u, ((h.getD v 0).testBit u = true ↔ (u = v ∧ v < k) ∨ (v < k ∧ s.getD v 0 = u) ∨ (u < k ∧ s.getD u 0 = v))
theorem hstep_bit {s : List Int} (K : OkS s) (k : Nat) (hk : k < s.length) (h : List Nat) (hl : h.length = s.length) (H : PB s k h) : PB s (k + 1) (hstep s k h) := by
  intro v hv u
  have e := H v hv u
  unfold hstep
  by_cases h0 : 0 ≤ s.getD k 0
  · obtain ⟨b, hb⟩ := Int.eq_ofNat_of_zero_le h0
    have hkp : 0 < k := by
      by_cases c : k = 0
      · subst c; rw [K.h0] at hb; omega
      · omega
    have hbk : b < k := by have := (K.hi k hkp hk).2; omega
    rw [if_pos h0, hb, Int.toNat_natCast]
    simp only [getD_hset, hset_length, hl, show b < s.length by omega, hk, and_true, show ¬ b = k by omega, if_false, if_true]
    by_cases c1 : v = b
    · subst c1
      simp only [if_true, show ¬ v = k by omega, if_false, Nat.testBit_or, Nat.testBit_two_pow, Bool.or_eq_true, decide_eq_true_eq, e]
      constructor
      · rintro (h | rfl)
        · omega
        · right; right; exact ⟨by omega, hb⟩
      · rintro (⟨rfl, _⟩ | ⟨h1, h2⟩ | ⟨h1, h2⟩)
        · left; left; exact ⟨rfl, hbk⟩
        · left; right; left; exact ⟨hbk, h2⟩
        · by_cases c : u = k
          · right; exact c.symm
          · left; right; right; exact ⟨by omega, h2⟩
    · by_cases c2 : v = k
      · subst c2
        simp only [if_neg c1, if_true, Nat.testBit_or, Nat.testBit_two_pow, Bool.or_eq_true, decide_eq_true_eq, e]
        constructor
        · rintro ((h | rfl) | rfl)
          · omega
          · left; exact ⟨rfl, by omega⟩
          · right; left; exact ⟨by omega, hb⟩
        · rintro (⟨rfl, _⟩ | ⟨h1, h2⟩ | ⟨h1, h2⟩)
          · left; right; rfl
          · right; omega
          · by_cases c : u = v
            · subst c; omega
            · left; left; right; right; exact ⟨by omega, h2⟩
      · simp only [if_neg c1, if_neg c2, e]
        constructor
        · rintro (h | h | h) <;> omega
        · rintro (⟨rfl, _⟩ | ⟨h1, h2⟩ | ⟨h1, h2⟩)
          · left; exact ⟨rfl, by omega⟩
          · right; left; exact ⟨by omega, h2⟩
          · by_cases c : u = k
            · subst c; omega
            · right; right; exact ⟨by omega, h2⟩
  · have hk0 : k = 0 := by
      by_cases c : k = 0
      · exact c
      · exact absurd (K.hi k (by omega) hk).1 h0
    subst hk0
    rw [if_neg h0, getD_hset]
    have h00 := K.h0
    by_cases c2 : v = 0
    · subst c2
      simp only [hl, hk, and_self, if_true, Nat.testBit_or, Nat.testBit_two_pow, Bool.or_eq_true, decide_eq_true_eq, e]
      constructor
      · rintro (h | rfl) <;> omega
      · rintro (⟨rfl, _⟩ | ⟨h1, h2⟩ | ⟨h1, h2⟩)
        · right; rfl
        · omega
        · have : u = 0 := by omega
          subst this; omega
    · simp only [c2, false_and, if_false, e]
      constructor
      · rintro (h | h | h) <;> omega
      · rintro (⟨rfl, _⟩ | ⟨h1, h2⟩ | ⟨h1, h2⟩)
        · omega
        · omega
        · have : u = 0 := by omega
          subst this; omega
theorem hstep_length (s : List Int) (k : Nat) (h : List Nat) : (hstep s k h).length = h.length := by
  unfold hstep; split <;> simp [hset_length]
theorem hloop_bit {s : List Int} (K : OkS s) (n : Nat) : ∀ k h, k + n = s.length → h.length = s.length → PB s k h → PB s s.length (hloop s n k h) := by
  induction n with
  | zero => intro k h hk hl H; rw [show s.length = k by omega]; exact H
  | succ n ih =>
    intro k h hk hl H
    exact ih (k + 1) _ (by omega) (by rw [hstep_length, hl]) (hstep_bit K k (by omega) h hl H)
theorem hands_bit {s : List Int} (K : OkS s) {v : Nat} (hv : v < s.length) (u : Nat) : ((handsV s).getD v 0).testBit u = (nb s v u && decide (u < s.length)) := by
  have := hloop_bit K s.length 0 (List.replicate s.length 0) (by omega) (by simp) (by
    intro v hv u
    have : (List.replicate s.length 0).getD v 0 = 0 := by simp [List.getD_eq_getElem?_getD, List.getElem?_replicate]; split <;> rfl
    rw [this]; simp) v hv u
  rw [Bool.eq_iff_iff]
  unfold handsV
  rw [this]
  simp only [nb, Bool.and_eq_true, Bool.or_eq_true, decide_eq_true_eq]
  constructor
  · rintro (⟨rfl, h⟩ | ⟨_, h⟩ | ⟨h1, h2⟩)
    · exact ⟨.inl rfl, hv⟩
    · have := K.lt v hv
      exact ⟨.inr (.inr h), by omega⟩
    · exact ⟨.inr (.inl h2), h1⟩
  · rintro ⟨rfl | h | h, hu⟩
    · exact .inl ⟨rfl, hv⟩
    · exact .inr (.inr ⟨hu, h⟩)
    · exact .inr (.inl ⟨hv, h⟩)
theorem hands_lt {s : List Int} (K : OkS s) (v : Nat) : (handsV s).getD v 0 < 1024 := by
  by_cases hv : v < s.length
  · refine Nat.lt_pow_two_of_testBit (n := 10) _ fun i hi => ?_
    rw [hands_bit K hv]
    have := K.le
    have h1 : decide (i < s.length) = false := by simp; omega
    rw [h1, Bool.and_false]
  · have : (handsV s).getD v 0 = 0 := by
      rw [List.getD_eq_getElem?_getD, List.getElem?_eq_none (by rw [handsV_length]; omega)]; rfl
    omega

/-! ### The reference's -/
def handR (s : List Int) (p k n : Nat) : List Nat := (List.range' k n).filter fun i => nb s p i
def handL (s : List Int) (p : Nat) : List Nat := handR s p 0 s.length
/-- Both are the same. -/
theorem mem_hand {s : List Int} (K : OkS s) {p : Nat} (hp : p < s.length) : memL ((handsV s).getD p 0) = handL s p := by
  have h10 := K.le
  unfold memL memR handL handR
  have e : List.range' 0 10 = List.range' 0 s.length ++ List.range' (0 + s.length) (10 - s.length) := by
    rw [List.range'_append_1]; congr 1; omega
  rw [e, List.filter_append]
  have e2 : (List.range' (0 + s.length) (10 - s.length)).filter (fun i => ((handsV s).getD p 0).testBit i) = [] := by
    rw [List.filter_eq_nil_iff]
    intro i hi
    rw [List.mem_range'] at hi
    obtain ⟨j, hj, rfl⟩ := hi
    rw [hands_bit K hp]; simp
  rw [e2, List.append_nil]
  apply List.filter_congr
  intro i hi
  rw [List.mem_range'] at hi
  obtain ⟨j, hj, rfl⟩ := hi
  rw [hands_bit K hp]
  simp; intro _; omega
end Go.Am.Post

/-
  Plain: a shore's posts rated place by place are all posts rated one by one. No statement of the seat is proved here.
-/
set_option linter.unusedVariables false
set_option linter.unusedSimpArgs false
namespace Go.Am.Post

/-- What can be added and multiplied. -/
class SR (K : Type) where
  add : K → K → K
  mul : K → K → K
  zero : K
  one : K
  add_assoc : ∀ a b c, add (add a b) c = add a (add b c)
  add_comm : ∀ a b, add a b = add b a
  zero_add : ∀ a, add zero a = a
  mul_assoc : ∀ a b c, mul (mul a b) c = mul a (mul b c)
  mul_comm : ∀ a b, mul a b = mul b a
  one_mul : ∀ a, mul one a = a
  zero_mul : ∀ a, mul zero a = zero
  mul_add : ∀ a b c, mul a (add b c) = add (mul a b) (mul a c)
open SR
variable {K : Type} [SR K]
instance : Std.Associative (α := K) add := ⟨add_assoc⟩
instance : Std.Commutative (α := K) add := ⟨add_comm⟩
instance : Std.Associative (α := K) mul := ⟨mul_assoc⟩
instance : Std.Commutative (α := K) mul := ⟨mul_comm⟩
theorem add_zero (a : K) : add a zero = a := by rw [add_comm, zero_add]
theorem mul_one (a : K) : mul a one = a := by rw [mul_comm, one_mul]
theorem add_mul (a b c : K) : mul (add a b) c = add (mul a c) (mul b c) := by rw [mul_comm, mul_add, mul_comm c a, mul_comm c b]

/-- All ascending lists of d numbers from i on, in ascending order. -/
def asc : Nat → Nat → List (List Nat)
  | _, 0 => [[]]
  | i, d + 1 => [] :: ((asc (i + 1) d).map (i :: ·) ++ (asc (i + 1) d).tail)
theorem asc_head (i : Nat) : ∀ d, asc i d = [] :: (asc i d).tail
  | 0 => rfl
  | _ + 1 => rfl
/-! ### The rating of places -/
structure Tri (K : Type) where
  m : K
  r : K
  w : K
/-- Two places of which one is behind the other one. -/
def adj (par : Nat → Nat) (v u : Nat) : Bool := (decide (v ≠ 0) && decide (u = par v)) || (decide (u ≠ 0) && decide (par u = v))
def okS (par : Nat → Nat) (must mustNot : Nat → Bool) (S : List Nat) (v : Nat) : Bool :=
  if v ∈ S then !mustNot v else S.any (adj par v) && !must v
def allN (p : Nat → Bool) : Nat → Bool
  | 0 => true
  | k + 1 => allN p k && p k
theorem allN_iff (p : Nat → Bool) : ∀ k, allN p k = true ↔ ∀ v, v < k → p v = true
  | 0 => by simp [allN]
  | k + 1 => by
    rw [allN, Bool.and_eq_true, allN_iff p k]
    constructor
    · rintro ⟨h1, h2⟩ v hv
      by_cases e : v = k
      · rw [e]; exact h2
      · exact h1 v (by omega)
    · intro h; exact ⟨fun v hv => h v (by omega), h k (by omega)⟩
end Go.Am.Post

/-
  Plain: what is counted, what is least, and how often. No statement of the seat is proved here.
-/
set_option linter.unusedVariables false
set_option linter.unusedSimpArgs false
namespace Go.Am.Post
open SR
instance : SR Nat where
  add := (· + ·)
  mul := (· * ·)
  zero := 0
  one := 1
  add_assoc := Nat.add_assoc
  add_comm := Nat.add_comm
  zero_add := Nat.zero_add
  mul_assoc := Nat.mul_assoc
  mul_comm := Nat.mul_comm
  one_mul := Nat.one_mul
  zero_mul := Nat.zero_mul
  mul_add := Nat.mul_add

/-- What is least. -/
abbrev MinP := Option Nat
def MinP.add : MinP → MinP → MinP
  | none, b => b
  | some a, none => some a
  | some a, some b => some (min a b)
def MinP.mul : MinP → MinP → MinP
  | some a, some b => some (a + b)
  | _, _ => none
instance : SR MinP where
  add := MinP.add
  mul := MinP.mul
  zero := none
  one := some 0
  add_assoc a b c := by cases a <;> cases b <;> cases c <;> simp [MinP.add] <;> omega
  add_comm a b := by cases a <;> cases b <;> simp [MinP.add] <;> omega
  zero_add a := by cases a <;> rfl
  mul_assoc a b c := by cases a <;> cases b <;> cases c <;> simp [MinP.mul] <;> omega
  mul_comm a b := by cases a <;> cases b <;> simp [MinP.mul] <;> omega
  one_mul a := by cases a <;> simp [MinP.mul]
  zero_mul a := by cases a <;> rfl
  mul_add a b c := by cases a <;> cases b <;> cases c <;> simp [MinP.mul, MinP.add] <;> omega

/-- What is least, and how often. -/
abbrev Few := Option (Nat × Nat)
def Few.add : Few → Few → Few
  | none, b => b
  | some a, none => some a
  | some a, some b => if a.1 < b.1 then some a else if b.1 < a.1 then some b else some (a.1, a.2 + b.2)
def Few.mul : Few → Few → Few
  | some a, some b => some (a.1 + b.1, a.2 * b.2)
  | _, _ => none
theorem Few.add_none (a : Few) : Few.add a none = a := by cases a <;> rfl
instance : SR Few where
  add := Few.add
  mul := Few.mul
  zero := none
  one := some (0, 1)
  add_assoc a b c := by
    cases a with
    | none => rfl
    | some a =>
      cases b with
      | none => rfl
      | some b =>
        cases c with
        | none => rw [Few.add_none, Few.add_none]
        | some c =>
          simp only [Few.add]
          by_cases h1 : a.1 < b.1 <;> by_cases h2 : b.1 < a.1 <;> by_cases h3 : b.1 < c.1 <;> by_cases h4 : c.1 < b.1 <;> by_cases h5 : a.1 < c.1 <;> by_cases h6 : c.1 < a.1 <;> first | (exfalso; omega) | (simp [h1, h2, h3, h4, h5, h6, Few.add]; done) | (simp [h1, h2, h3, h4, h5, h6, Few.add]; omega)
  add_comm a b := by
    cases a <;> cases b <;> simp only [Few.add]
    rename_i a b
    by_cases h1 : a.1 < b.1 <;> by_cases h2 : b.1 < a.1 <;> first | (exfalso; omega) | (simp [h1, h2]; try omega)
  zero_add a := by cases a <;> rfl
  mul_assoc a b c := by cases a <;> cases b <;> cases c <;> simp [Few.mul, Nat.mul_assoc] <;> omega
  mul_comm a b := by cases a <;> cases b <;> simp [Few.mul, Nat.mul_comm] <;> omega
  one_mul a := by cases a <;> simp [Few.mul]
  zero_mul a := by cases a <;> rfl
  mul_add a b c := by
    cases a <;> cases b <;> cases c <;> simp only [Few.mul, Few.add]
    rename_i a b c
    by_cases h1 : b.1 < c.1 <;> by_cases h2 : c.1 < b.1 <;> first | (exfalso; omega) | (simp [h1, h2, Nat.mul_add])

end Go.Am.Post

/-
  Plain: ascending lists; the first one that is as good as can be is found place by place. No statement of the seat is proved here.
-/
set_option linter.unusedVariables false
set_option linter.unusedSimpArgs false
namespace Go.Am.Post
open SR

/-- Ascending, from a number on. -/
def up : Nat → List Nat → Prop
  | _, [] => True
  | i, x :: r => i ≤ x ∧ up (x + 1) r
theorem up_le {i j : Nat} (h : i ≤ j) : ∀ {l : List Nat}, up j l → up i l
  | [], _ => trivial
  | x :: r, ⟨a, b⟩ => ⟨by omega, b⟩
theorem up_ge : ∀ {l : List Nat} {i : Nat}, up i l → ∀ x ∈ l, i ≤ x
  | [], _, _, x, h => by cases h
  | y :: r, i, ⟨a, b⟩, x, h => by
    rcases List.mem_cons.1 h with rfl | h
    · exact a
    · have := up_ge b x h; omega
theorem mem_asc (d : Nat) : ∀ (i : Nat) (l : List Nat), l ∈ asc i d ↔ up i l ∧ ∀ x ∈ l, x < i + d := by
  induction d with
  | zero =>
    intro i l
    simp only [asc, List.mem_singleton]
    constructor
    · rintro rfl; simp [up]
    · rintro ⟨h1, h2⟩
      cases l with
      | nil => rfl
      | cons x r => have := h2 x (by simp); have := h1.1; omega
  | succ d ih =>
    intro i l
    have hh : l ∈ asc i (d + 1) ↔ l ∈ (asc (i + 1) d).map (i :: ·) ∨ l ∈ asc (i + 1) d := by
      rw [show asc i (d + 1) = [] :: ((asc (i + 1) d).map (i :: ·) ++ (asc (i + 1) d).tail) from rfl]
      conv => rhs; rhs; rw [asc_head]
      simp only [List.mem_cons, List.mem_append]
      constructor
      · rintro (h | h | h)
        · exact .inr (.inl h)
        · exact .inl h
        · exact .inr (.inr h)
      · rintro (h | h | h)
        · exact .inr (.inl h)
        · exact .inl h
        · exact .inr (.inr h)
    rw [hh, List.mem_map, ih]
    constructor
    · rintro (⟨l', h, rfl⟩ | h)
      · rw [ih] at h
        exact ⟨⟨Nat.le_refl _, h.1⟩, fun x hx => by
          rcases List.mem_cons.1 hx with rfl | hx
          · omega
          · have := h.2 x hx; omega⟩
      · exact ⟨up_le (by omega) h.1, fun x hx => by have := h.2 x hx; omega⟩
    · rintro ⟨h1, h2⟩
      cases l with
      | nil => right; exact ⟨trivial, by simp⟩
      | cons x r =>
        by_cases e : x = i
        · subst e
          left
          refine ⟨r, (ih _ _).2 ⟨h1.2, fun y hy => ?_⟩, rfl⟩
          have := h2 y (by simp [hy]); omega
        · right
          refine ⟨⟨by have := h1.1; omega, h1.2⟩, fun y hy => ?_⟩
          have := h2 y hy; omega
theorem up_ext : ∀ {a b : List Nat} {i : Nat}, up i a → up i b → (∀ x, x ∈ a ↔ x ∈ b) → a = b
  | [], [], _, _, _, _ => rfl
  | [], y :: s, _, _, _, h => by have := (h y).2 (by simp); cases this
  | x :: r, [], _, _, _, h => by have := (h x).1 (by simp); cases this
  | x :: r, y :: s, i, ⟨a1, a2⟩, ⟨b1, b2⟩, h => by
    have e : x = y := by
      have h1 := (h x).1 (by simp)
      have h2 := (h y).2 (by simp)
      rcases List.mem_cons.1 h1 with h1 | h1
      · exact h1
      · rcases List.mem_cons.1 h2 with h2 | h2
        · exact h2.symm
        · have := up_ge b2 x h1; have := up_ge a2 y h2; omega
    subst e
    rw [up_ext a2 b2 fun z => ?_]
    have := h z
    simp only [List.mem_cons] at this
    constructor
    · intro hz
      rcases this.1 (.inr hz) with rfl | h'
      · have := up_ge a2 z hz; omega
      · exact h'
    · intro hz
      rcases this.2 (.inr hz) with rfl | h'
      · have := up_ge b2 z hz; omega
      · exact h'
theorem up_filter (p : Nat → Bool) : ∀ {l : List Nat} {i : Nat}, up i l → up i (l.filter p)
  | [], _, _ => trivial
  | x :: r, i, ⟨a, b⟩ => by
    rw [List.filter_cons]
    split
    · exact ⟨a, up_filter p b⟩
    · exact up_le (by omega) (up_filter p b)
theorem up_split (j : Nat) : ∀ {l : List Nat} {i : Nat}, up i l → l = l.filter (fun x => decide (x < j)) ++ l.filter (fun x => decide (j ≤ x))
  | [], _, _ => rfl
  | x :: r, i, ⟨a, b⟩ => by
    by_cases h : x < j
    · conv => lhs; rw [up_split j b]
      simp [h, Nat.not_le.2 h]
    · have h1 : r.filter (fun x => decide (x < j)) = [] := by
        rw [List.filter_eq_nil_iff]; intro y hy; have := up_ge b y hy; simp; omega
      have h2 : r.filter (fun x => decide (j ≤ x)) = r := by
        rw [List.filter_eq_self]; intro y hy; have := up_ge b y hy; simp; omega
      simp [h, Nat.not_lt.1 h, h1, h2]

end Go.Am.Post

/-
  Plain: the cheapest posts, place by place. No statement of the seat is proved here.
-/
set_option linter.unusedVariables false
set_option linter.unusedSimpArgs false
namespace Go.Am.Post
open SR
variable (par : Nat → Nat) (n : Nat) (price : Nat → Nat)

def dom (S : List Nat) : Bool := allN (okS par (fun _ => false) (fun _ => false) S) n
def all (n : Nat) : List Nat := List.range n
theorem up_range' : ∀ (d i : Nat), up i (List.range' i d)
  | 0, _ => trivial
  | d + 1, i => ⟨Nat.le_refl _, up_range' d (i + 1)⟩
end Go.Am.Post


