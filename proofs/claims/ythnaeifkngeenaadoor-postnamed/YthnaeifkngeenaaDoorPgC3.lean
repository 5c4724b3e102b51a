import Derived.Test.YthnaeifkngeenaaDoorPgC1
/-
  What functions of chapter 12 compute, 3: what is at hand, bit for bit; the reference's.
-/
set_option linter.unusedVariables false
set_option linter.unusedSimpArgs false
set_option maxRecDepth 10000
namespace Go.Am.Post
open Go.Am.G

theorem zeros_u (n : Nat) : zerosL [.int .u64 0] n = nats (List.replicate n 0) := by
  unfold zerosL
  apply List.ext_getElem (by simp)
  intro i h1 h2
  simp [Nat.mod_one]
theorem hloop_length (s : List Int) (n : Nat) : ∀ (k : Nat) (h : List Nat), (hloop s n k h).length = h.length := by
  induction n with
  | zero => intro k h; rfl
  | succ n ih =>
    intro k h
    rw [hloop, ih, hstep]
    split <;> simp [hset_length]
theorem handsV_length (s : List Int) : (handsV s).length = s.length := by rw [handsV, hloop_length]; simp
/-- A shore that is checked. -/
structure OkS (s : List Int) : Prop where
  pos : 0 < s.length
  le : s.length ≤ 10
  h0 : s.getD 0 0 = -1
  hi : ∀ i, 0 < i → i < s.length → 0 ≤ s.getD i 0 ∧ s.getD i 0 < i
theorem anyBad_ok : ∀ (l : List Int) (i : Nat), anyBad i l = false → ∀ j, 0 < i + j → j < l.length → 0 ≤ l.getD j 0 ∧ l.getD j 0 < ((i + j : Nat) : Int)
  | [], i, _, j, _, h => by simp at h
  | x :: r, i, h, j, h0, hj => by
    rw [anyBad, Bool.or_eq_false_iff] at h
    cases j with
    | zero =>
      have := h.1
      rw [Bool.eq_false_iff] at this
      have h3 : ¬ (0 < i ∧ (x < 0 ∨ (i : Int) ≤ x)) := fun c => this ((badAt_of _ _).2 c)
      simp
      constructor
      · by_cases c : x < 0
        · exact absurd ⟨by omega, .inl c⟩ h3
        · omega
      · by_cases c : (i : Int) ≤ x
        · exact absurd ⟨by omega, .inr c⟩ h3
        · omega
    | succ j =>
      have := anyBad_ok r (i + 1) h.2 j (by omega) (by simpa using hj)
      rw [List.getD_cons_succ]
      rw [show i + (j + 1) = i + 1 + j by omega]
      exact this
theorem okS_of {s : List Int} (h : chkS s = 0) : OkS s := by
  unfold chkS at h
  split at h
  · omega
  · rename_i h1
    split at h
    · omega
    · rename_i h2
      split at h
      · omega
      · rename_i h3
        split at h
        · omega
        · rename_i h4
          refine ⟨by omega, by omega, by simpa using h3, fun i h0 hi => ?_⟩
          have := anyBad_ok s 0 (by simpa using h4) i (by omega) hi
          simpa using this
theorem OkS.lt {s : List Int} (K : OkS s) (v : Nat) (hv : v < s.length) : s.getD v 0 < (s.length : Int) := by
  by_cases h : v = 0
  · subst h; rw [K.h0]; have := K.pos; omega
  · have := (K.hi v (by omega) hv).2; omega
abbrev UH (h : List Nat) : LV := .lst false true 1 h.length (nats h)
theorem hands_c (nl ex : Bool) (sz : Nat) {s : List Int} (K : OkS s) (m : LMem) : clF LP n_post_hands [IL nl ex sz s] m = some (.P, UH (handsV s), m) := by
  have h10 := K.le
  have h := hands_loop nl ex sz s s.length rfl K.le K.lt s.length 0 (List.replicate s.length 0) (by omega) (by simp) (by
    intro i
    simp only [List.getD_eq_getElem?_getD, List.getElem?_replicate]
    split <;> simp)
  simp only [Int.natCast_zero] at h
  change exF LP post_hands.L0 _ _ = some (.exit 0, _, [⟨nats (handsV s), true⟩]) at h
  have hv : view 40 [⟨nats (handsV s), true⟩] (.sl 0 0 s.length s.length 0 1 s.length) = some (UH (handsV s), [0]) := by
    have := view_slc 37 [⟨nats (handsV s), true⟩] 0 0 s.length s.length 0 s.length 1 (nats (handsV s)) true rfl (by rw [List.drop_zero, List.take_of_length_le (by simp [handsV_length])]; exact pures_nats _) (by simp [handsV_length]) (by omega) (by omega)
    rw [this, List.drop_zero, List.take_of_length_le (by simp [handsV_length])]
    simp [nbeq, handsV_length]
  have r1 : s.length * 8 ≤ roomMost := by unfold roomMost; omega
  have r2 : s.length ≤ roomMost := by unfold roomMost; omega
  refine call_Pv lp_post_hands rfl (by simp [LV.pures, LV.pure]) ?_ hv m
  simp only [post_hands, post_hands.B, beqT, beqF, exF_seq, exF_region, exF_block, exF_cond, exF_ret, exF_exit, exF_skip, runL, wantL, stepL, evL, evC, LEnv.at, putL, loadFine, loadL, cellsAt, Trk.putNew, Trk.up, Trk.touch, Trk.gives, Trk.calm, Trk.hit, opdsOf, Trk.fresh, LEnv.keep, LEnv.ofFrom, List.map_cons, List.map_nil, nbeq, nble, nblt, ofAV, ofAVs, lenL, bin_add, bin_sub, bin_mul, bin_eql, bin_neq, bin_lss, bin_leq, bin_gtr, bin_geq, natL_nat, natL_zero, natL_one, natL_two, Nat.zero_mul, List.any_cons, List.any_nil, Bool.or_false, Bool.false_or, Bool.true_or, Bool.or_true, Bool.and_true, Bool.true_and, Bool.and_false, Bool.false_and, Bool.not_true, Bool.not_false, Nat.reduceBEq, Nat.reduceEqDiff, decide_true, decide_false, cond_true, cond_false, List.filter_nil, List.filter_cons, Nat.reduceAdd, Nat.reduceLeDiff, reduceCtorEq, List.length_nil, List.length_cons, Nat.mul_one, if_true, if_false, Bool.false_eq_true, eq_self, and_true, true_and, retL, resultsL, resAllL, resOfL, List.append_nil, List.nil_append, List.cons_append, true_or, or_true, false_or, or_false, false_and, and_false, not_true_eq_false, not_false_eq_true, ne_eq, unL, trim_nil, views_pures, LV.pures, LV.pure, freeze, Nat.reduceDiv, Int.reduceEq, Int.reduceLT, Int.reduceLE, Int.natCast_zero, LV.cells, allocL, List.getElem?_cons_zero, List.getElem?_cons_succ, storeL, spliceL, List.take_zero, List.take_succ_cons, List.drop_zero, List.drop_succ_cons, List.drop_nil, List.take_nil, Nat.le_refl, Nat.reduceMul, List.set_cons_zero, List.set_cons_succ, LV.scalar, List.all_cons, List.all_nil, Nat.lt_add_one, Nat.zero_lt_one, Nat.reduceLT, Nat.lt_irrefl, fillL, List.length_append, foldIntL, kind_beq, pures_int, solids_int, plains_int, unders_int, scalars_int, r1, r2, zeros_u, h]

/-! ### Bit for bit -/
def nb (s : List Int) (v u : Nat) : Bool := decide (u = v) || (decide (s.getD u 0 = v) || decide (s.getD v 0 = u))
def PB (s : List Int) (k : Nat) (h : List Nat) : Prop := ∀ v, v < s.length → ∀ u, ((h.getD v 0).testBit u = true ↔ (u = v ∧ v < k) ∨ (v < k ∧ s.getD v 0 = u) ∨ (u < k ∧ s.getD u 0 = v))
theorem hstep_bit {s : List Int} (K : OkS s) (k : Nat) (hk : k < s.length) (h : List Nat) (hl : h.length = s.length) (H : PB s k h) : PB s (k + 1) (hstep s k h) := by
  intro v hv u
  have e := H v hv u
  unfold hstep
  by_cases h0 : 0 ≤ s.getD k 0
  · obtain ⟨b, hb⟩ := Int.eq_ofNat_of_zero_le h0
    have hkp : 0 < k := by
      by_cases c : k = 0
      · subst c; rw [K.h0] at hb; omega
      · omega
    have hbk : b < k := by have := (K.hi k hkp hk).2; omega
    rw [if_pos h0, hb, Int.toNat_natCast]
    simp only [getD_hset, hset_length, hl, show b < s.length by omega, hk, and_true, show ¬ b = k by omega, if_false, if_true]
    by_cases c1 : v = b
    · subst c1
      simp only [if_true, show ¬ v = k by omega, if_false, Nat.testBit_or, Nat.testBit_two_pow, Bool.or_eq_true, decide_eq_true_eq, e]
      constructor
      · rintro (h | rfl)
        · omega
        · right; right; exact ⟨by omega, hb⟩
      · rintro (⟨rfl, _⟩ | ⟨h1, h2⟩ | ⟨h1, h2⟩)
        · left; left; exact ⟨rfl, hbk⟩
        · left; right; left; exact ⟨hbk, h2⟩
        · by_cases c : u = k
          · right; exact c.symm
          · left; right; right; exact ⟨by omega, h2⟩
    · by_cases c2 : v = k
      · subst c2
        simp only [if_neg c1, if_true, Nat.testBit_or, Nat.testBit_two_pow, Bool.or_eq_true, decide_eq_true_eq, e]
        constructor
        · rintro ((h | rfl) | rfl)
          · omega
          · left; exact ⟨rfl, by omega⟩
          · right; left; exact ⟨by omega, hb⟩
        · rintro (⟨rfl, _⟩ | ⟨h1, h2⟩ | ⟨h1, h2⟩)
          · left; right; rfl
          · right; omega
          · by_cases c : u = v
            · subst c; omega
            · left; left; right; right; exact ⟨by omega, h2⟩
      · simp only [if_neg c1, if_neg c2, e]
        constructor
        · rintro (h | h | h) <;> omega
        · rintro (⟨rfl, _⟩ | ⟨h1, h2⟩ | ⟨h1, h2⟩)
          · left; exact ⟨rfl, by omega⟩
          · right; left; exact ⟨by omega, h2⟩
          · by_cases c : u = k
            · subst c; omega
            · right; right; exact ⟨by omega, h2⟩
  · have hk0 : k = 0 := by
      by_cases c : k = 0
      · exact c
      · exact absurd (K.hi k (by omega) hk).1 h0
    subst hk0
    rw [if_neg h0, getD_hset]
    have h00 := K.h0
    by_cases c2 : v = 0
    · subst c2
      simp only [hl, hk, and_self, if_true, Nat.testBit_or, Nat.testBit_two_pow, Bool.or_eq_true, decide_eq_true_eq, e]
      constructor
      · rintro (h | rfl) <;> omega
      · rintro (⟨rfl, _⟩ | ⟨h1, h2⟩ | ⟨h1, h2⟩)
        · right; rfl
        · omega
        · have : u = 0 := by omega
          subst this; omega
    · simp only [c2, false_and, if_false, e]
      constructor
      · rintro (h | h | h) <;> omega
      · rintro (⟨rfl, _⟩ | ⟨h1, h2⟩ | ⟨h1, h2⟩)
        · omega
        · omega
        · have : u = 0 := by omega
          subst this; omega
theorem hstep_length (s : List Int) (k : Nat) (h : List Nat) : (hstep s k h).length = h.length := by
  unfold hstep; split <;> simp [hset_length]
theorem hloop_bit {s : List Int} (K : OkS s) (n : Nat) : ∀ k h, k + n = s.length → h.length = s.length → PB s k h → PB s s.length (hloop s n k h) := by
  induction n with
  | zero => intro k h hk hl H; rw [show s.length = k by omega]; exact H
  | succ n ih =>
    intro k h hk hl H
    exact ih (k + 1) _ (by omega) (by rw [hstep_length, hl]) (hstep_bit K k (by omega) h hl H)
theorem hands_bit {s : List Int} (K : OkS s) {v : Nat} (hv : v < s.length) (u : Nat) : ((handsV s).getD v 0).testBit u = (nb s v u && decide (u < s.length)) := by
  have := hloop_bit K s.length 0 (List.replicate s.length 0) (by omega) (by simp) (by
    intro v hv u
    have : (List.replicate s.length 0).getD v 0 = 0 := by simp [List.getD_eq_getElem?_getD, List.getElem?_replicate]; split <;> rfl
    rw [this]; simp) v hv u
  rw [Bool.eq_iff_iff]
  unfold handsV
  rw [this]
  simp only [nb, Bool.and_eq_true, Bool.or_eq_true, decide_eq_true_eq]
  constructor
  · rintro (⟨rfl, h⟩ | ⟨_, h⟩ | ⟨h1, h2⟩)
    · exact ⟨.inl rfl, hv⟩
    · have := K.lt v hv
      exact ⟨.inr (.inr h), by omega⟩
    · exact ⟨.inr (.inl h2), h1⟩
  · rintro ⟨rfl | h | h, hu⟩
    · exact .inl ⟨rfl, hv⟩
    · exact .inr (.inr ⟨hu, h⟩)
    · exact .inr (.inl ⟨hv, h⟩)
theorem hands_lt {s : List Int} (K : OkS s) (v : Nat) : (handsV s).getD v 0 < 1024 := by
  by_cases hv : v < s.length
  · refine Nat.lt_pow_two_of_testBit (n := 10) _ fun i hi => ?_
    rw [hands_bit K hv]
    have := K.le
    have h1 : decide (i < s.length) = false := by simp; omega
    rw [h1, Bool.and_false]
  · have : (handsV s).getD v 0 = 0 := by
      rw [List.getD_eq_getElem?_getD, List.getElem?_eq_none (by rw [handsV_length]; omega)]; rfl
    omega

end Go.Am.Post

/-
  Plain: a shore's posts rated place by place are all posts rated one by one. No statement of the seat is proved here.
-/
set_option linter.unusedVariables false
set_option linter.unusedSimpArgs false
namespace Go.Am.Post

/-- What can be added and multiplied. -/
class SR (K : Type) where
  add : K → K → K
  mul : K → K → K
  zero : K
  one : K
  add_assoc : ∀ a b c, add (add a b) c = add a (add b c)
  add_comm : ∀ a b, add a b = add b a
  zero_add : ∀ a, add zero a = a
  mul_assoc : ∀ a b c, mul (mul a b) c = mul a (mul b c)
  mul_comm : ∀ a b, mul a b = mul b a
  one_mul : ∀ a, mul one a = a
  zero_mul : ∀ a, mul zero a = zero
  mul_add : ∀ a b c, mul a (add b c) = add (mul a b) (mul a c)
open SR
variable {K : Type} [SR K]
instance : Std.Associative (α := K) add := ⟨add_assoc⟩
instance : Std.Commutative (α := K) add := ⟨add_comm⟩
instance : Std.Associative (α := K) mul := ⟨mul_assoc⟩
instance : Std.Commutative (α := K) mul := ⟨mul_comm⟩
theorem add_zero (a : K) : add a zero = a := by rw [add_comm, zero_add]
theorem mul_one (a : K) : mul a one = a := by rw [mul_comm, one_mul]
theorem mul_zero (a : K) : mul a zero = zero := by rw [mul_comm, zero_mul]
theorem add_mul (a b c : K) : mul (add a b) c = add (mul a c) (mul b c) := by rw [mul_comm, mul_add, mul_comm c a, mul_comm c b]

/-- All ascending lists of d numbers from i on, in ascending order. -/
def asc : Nat → Nat → List (List Nat)
  | _, 0 => [[]]
  | i, d + 1 => [] :: ((asc (i + 1) d).map (i :: ·) ++ (asc (i + 1) d).tail)
theorem asc_head (i : Nat) : ∀ d, asc i d = [] :: (asc i d).tail
  | 0 => rfl
  | _ + 1 => rfl
def sumL (f : List Nat → K) : List (List Nat) → K
  | [] => zero
  | l :: r => add (f l) (sumL f r)
theorem sumL_append (f : List Nat → K) : ∀ a b, sumL f (a ++ b) = add (sumL f a) (sumL f b)
  | [], b => by simp [sumL, zero_add]
  | l :: r, b => by simp only [List.cons_append, sumL, sumL_append f r b, add_assoc]
theorem sumL_map (f : List Nat → K) (g : List Nat → List Nat) : ∀ a, sumL f (a.map g) = sumL (fun l => f (g l)) a
  | [] => rfl
  | l :: r => by simp only [List.map_cons, sumL, sumL_map f g r]
theorem sumL_add (f g : List Nat → K) : ∀ a, sumL (fun l => add (f l) (g l)) a = add (sumL f a) (sumL g a)
  | [] => by simp [sumL, zero_add]
  | l :: r => by simp only [sumL, sumL_add f g r]; ac_rfl
theorem sumL_congr (f g : List Nat → K) : ∀ a, (∀ l ∈ a, f l = g l) → sumL f a = sumL g a
  | [], _ => rfl
  | l :: r, h => by simp only [sumL, h l (by simp), sumL_congr f g r fun l hl => h l (by simp [hl])]
theorem sumA_succ (f : List Nat → K) (i d : Nat) : sumL f (asc i (d + 1)) = sumL (fun l => add (f (i :: l)) (f l)) (asc (i + 1) d) := by
  rw [sumL_add]
  show add (f []) (sumL f ((asc (i + 1) d).map (i :: ·) ++ (asc (i + 1) d).tail)) = _
  have h : sumL f (asc (i + 1) d) = add (f []) (sumL f (asc (i + 1) d).tail) := by
    conv => lhs; rw [asc_head (i + 1) d]
    rfl
  rw [sumL_append, sumL_map, h]
  ac_rfl
theorem sumA_last (d : Nat) : ∀ (i : Nat) (f : List Nat → K), sumL f (asc i (d + 1)) = sumL (fun l => add (f (l ++ [i + d])) (f l)) (asc i d) := by
  induction d with
  | zero =>
    intro i f
    simp [asc, sumL, add_zero]
    rw [add_comm]
  | succ d ih =>
    intro i f
    rw [sumA_succ, ih, sumA_succ]
    refine sumL_congr _ _ _ fun l _ => ?_
    simp only [List.cons_append, show i + 1 + d = i + (d + 1) by omega]
    ac_rfl
theorem asc_mem (d : Nat) : ∀ (i : Nat) (l : List Nat), l ∈ asc i d → ∀ x ∈ l, i ≤ x ∧ x < i + d := by
  induction d with
  | zero => intro i l h x hx; simp [asc] at h; subst h; cases hx
  | succ d ih =>
    intro i l h x hx
    simp only [asc, List.mem_cons, List.mem_append, List.mem_map] at h
    rcases h with rfl | ⟨l', h, rfl⟩ | h
    · cases hx
    · rcases List.mem_cons.1 hx with rfl | hx
      · omega
      · have := ih _ _ h x hx; omega
    · have := ih _ _ (List.mem_of_mem_tail h) x hx; omega

/-! ### The rating of places -/
structure Tri (K : Type) where
  m : K
  r : K
  w : K
def prodN (h : Nat → K) : Nat → K
  | 0 => one
  | k + 1 => mul (prodN h k) (h k)
theorem prodN_congr (g h : Nat → K) : ∀ k, (∀ v, v < k → g v = h v) → prodN g k = prodN h k
  | 0, _ => rfl
  | k + 1, e => by simp only [prodN, e k (by omega), prodN_congr g h k fun v hv => e v (by omega)]
theorem prodN_out (h : Nat → K) (b : Nat) : ∀ k, b < k → prodN h k = mul (h b) (prodN (fun v => if v = b then one else h v) k)
  | 0, e => absurd e (by omega)
  | k + 1, e => by
    by_cases hb : b = k
    · subst hb
      simp only [prodN, if_true, mul_one]
      rw [mul_comm, prodN_congr h (fun v => if v = b then one else h v) b fun v hv => by simp [show v ≠ b by omega]]
    · simp only [prodN, prodN_out h b k (by omega), if_neg (show ¬ k = b by omega), mul_assoc]
/-- Two places of which one is behind the other one. -/
def adj (par : Nat → Nat) (v u : Nat) : Bool := (decide (v ≠ 0) && decide (u = par v)) || (decide (u ≠ 0) && decide (par u = v))
def gv (par : Nat → Nat) (T : Nat → Tri K) (S : List Nat) (v : Nat) : K :=
  if v ∈ S then (T v).m else if S.any (adj par v) then add (T v).r (T v).w else (T v).r
def FF (par : Nat → Nat) (k : Nat) (T : Nat → Tri K) : K := sumL (fun S => prodN (gv par T S) k) (asc 0 k)
def mergeT (b o : Tri K) : Tri K :=
  ⟨mul b.m (add (add o.m o.r) o.w), add (mul b.r (add o.m o.r)) (mul b.w o.m), mul b.w o.r⟩
def setT (T : Nat → Tri K) (b : Nat) (x : Tri K) : Nat → Tri K := fun v => if v = b then x else T v

theorem FF_step (par : Nat → Nat) (hp : ∀ v, v ≠ 0 → par v < v) (k : Nat) (hk : k ≠ 0) (T : Nat → Tri K) : FF par (k + 1) T = FF par k (setT T (par k) (mergeT (T (par k)) (T k))) := by
  have hb := hp k hk
  generalize hB : par k = b at hb
  unfold FF
  rw [sumA_last]
  refine sumL_congr _ _ _ fun S hS => ?_
  have hlt : ∀ x ∈ S, x < k := fun x hx => by have := asc_mem k 0 S hS x hx; omega
  have hkS : k ∉ S := fun h => by have := hlt k h; omega
  have hkb : ∀ v, v < k → adj par v k = decide (v = b) := fun v hv => by
    unfold adj
    by_cases h0 : v = 0
    · subst h0; simp [hk, hB, eq_comm]
    · have := hp v h0
      simp [hk, hB, h0, show ¬ k = par v by omega, eq_comm]
  have hany : S.any (adj par k) = decide (b ∈ S) := by
    rw [Bool.eq_iff_iff]
    simp only [List.any_eq_true, decide_eq_true_eq, adj, Bool.or_eq_true, Bool.and_eq_true]
    constructor
    · rintro ⟨u, hu, h | h⟩
      · rw [hB] at h; rw [← h.2]; exact hu
      · have := hlt u hu; have := hp u h.1; omega
    · intro h; exact ⟨b, h, .inl ⟨hk, hB.symm⟩⟩
  have e1 : gv par T (S ++ [0 + k]) k = (T k).m := by simp [gv]
  have e2 : gv par T S k = if b ∈ S then add (T k).r (T k).w else (T k).r := by
    simp only [gv, hkS, if_false, hany, decide_eq_true_eq]
  have e3 : ∀ v, v < k → gv par T (S ++ [0 + k]) v = if v ∈ S then (T v).m else if v = b ∨ S.any (adj par v) = true then add (T v).r (T v).w else (T v).r := fun v hv => by
    have : v ≠ k := by omega
    simp only [gv, Nat.zero_add, List.mem_append, List.mem_singleton, this, or_false, List.any_append, List.any_cons, List.any_nil, Bool.or_false, hkb v hv, Bool.or_eq_true, decide_eq_true_eq]
    by_cases hvS : v ∈ S <;> simp [hvS, or_comm]
  have q1 : prodN (fun v => if v = b then one else gv par T (S ++ [0 + k]) v) k = prodN (fun v => if v = b then one else gv par T S v) k :=
    prodN_congr _ _ _ fun v hv => by
      by_cases hvb : v = b
      · simp [hvb]
      · simp only [if_neg hvb, e3 v hv, hvb, false_or]; rfl
  have q2 : prodN (fun v => if v = b then one else gv par (setT T b (mergeT (T b) (T k))) S v) k = prodN (fun v => if v = b then one else gv par T S v) k :=
    prodN_congr _ _ _ fun v hv => by
      by_cases hvb : v = b
      · simp [hvb]
      · simp only [if_neg hvb, gv, setT]
  simp only [prodN]
  rw [prodN_out (gv par T (S ++ [0 + k])) b k hb, prodN_out (gv par T S) b k hb, prodN_out (gv par (setT T b (mergeT (T b) (T k))) S) b k hb, q1, q2, e1, e2, e3 b hb]
  generalize prodN (fun v => if v = b then one else gv par T S v) k = Q
  have e4 : gv par (setT T b (mergeT (T b) (T k))) S b = if b ∈ S then (mergeT (T b) (T k)).m else if S.any (adj par b) then add (mergeT (T b) (T k)).r (mergeT (T b) (T k)).w else (mergeT (T b) (T k)).r := by
    simp [gv, setT]
  rw [e4]
  by_cases h1 : b ∈ S
  · simp only [gv, h1, if_true, mergeT, mul_add, add_mul]; ac_rfl
  · by_cases h2 : S.any (adj par b) = true
    · simp only [gv, h1, h2, if_true, if_false, or_true, mergeT, mul_add, add_mul]; ac_rfl
    · simp only [gv, h1, h2, if_true, if_false, true_or, mergeT, mul_add, add_mul, Bool.false_eq_true]; ac_rfl

/-- Places are looked at from the last one on. -/
def foldT (par : Nat → Nat) : Nat → (Nat → Tri K) → (Nat → Tri K)
  | 0, T => T
  | k + 1, T => foldT par k (setT T (par (k + 1)) (mergeT (T (par (k + 1))) (T (k + 1))))
theorem FF_fold (par : Nat → Nat) (hp : ∀ v, v ≠ 0 → par v < v) : ∀ (k : Nat) (T : Nat → Tri K), FF par (k + 1) T = FF par 1 (foldT par k T)
  | 0, T => rfl
  | k + 1, T => by rw [FF_step par hp (k + 1) (by omega), foldT, FF_fold par hp k]
theorem FF_one (par : Nat → Nat) (T : Nat → Tri K) : FF par 1 T = add (T 0).m (T 0).r := by
  simp [FF, asc, sumL, prodN, gv, one_mul, add_zero, adj]
  rw [add_comm]

/-- What has to be, and what may not be. -/
def startT (post : Nat → K) (must mustNot : Nat → Bool) (v : Nat) : Tri K :=
  ⟨if mustNot v then zero else post v, zero, if must v then zero else one⟩
def okS (par : Nat → Nat) (must mustNot : Nat → Bool) (S : List Nat) (v : Nat) : Bool :=
  if v ∈ S then !mustNot v else S.any (adj par v) && !must v
def allN (p : Nat → Bool) : Nat → Bool
  | 0 => true
  | k + 1 => allN p k && p k
theorem allN_iff (p : Nat → Bool) : ∀ k, allN p k = true ↔ ∀ v, v < k → p v = true
  | 0 => by simp [allN]
  | k + 1 => by
    rw [allN, Bool.and_eq_true, allN_iff p k]
    constructor
    · rintro ⟨h1, h2⟩ v hv
      by_cases e : v = k
      · rw [e]; exact h2
      · exact h1 v (by omega)
    · intro h; exact ⟨fun v hv => h v (by omega), h k (by omega)⟩
def costN (post : Nat → K) (S : List Nat) : Nat → K := prodN (fun v => if v ∈ S then post v else one)
theorem prod_start (par : Nat → Nat) (post : Nat → K) (must mustNot : Nat → Bool) (S : List Nat) : ∀ k, prodN (gv par (startT post must mustNot) S) k = if allN (okS par must mustNot S) k then costN post S k else zero
  | 0 => rfl
  | k + 1 => by
    rw [prodN, prod_start par post must mustNot S k, allN, show costN post S (k + 1) = mul (costN post S k) (if k ∈ S then post k else one) from rfl]
    cases allN (okS par must mustNot S) k
    · simp [zero_mul]
    · simp only [if_true, Bool.true_and]
      by_cases h : k ∈ S
      · cases hm : mustNot k <;> simp [gv, h, okS, startT, hm, mul_zero]
      · cases ha : S.any (adj par k) <;> cases hm : must k <;> simp [gv, h, okS, startT, hm, ha, mul_zero, zero_add, -List.any_eq_true]
theorem whole_sum (par : Nat → Nat) (hp : ∀ v, v ≠ 0 → par v < v) (post : Nat → K) (must mustNot : Nat → Bool) (n : Nat) :
    add (foldT par n (startT post must mustNot) 0).m (foldT par n (startT post must mustNot) 0).r =
      sumL (fun S => if allN (okS par must mustNot S) (n + 1) then costN post S (n + 1) else zero) (asc 0 (n + 1)) := by
  rw [← FF_one par, ← FF_fold par hp]
  exact sumL_congr _ _ _ fun S _ => prod_start par post must mustNot S (n + 1)
end Go.Am.Post

/-
  Plain: what is counted, what is least, and how often. No statement of the seat is proved here.
-/
set_option linter.unusedVariables false
set_option linter.unusedSimpArgs false
namespace Go.Am.Post
open SR
instance : SR Nat where
  add := (· + ·)
  mul := (· * ·)
  zero := 0
  one := 1
  add_assoc := Nat.add_assoc
  add_comm := Nat.add_comm
  zero_add := Nat.zero_add
  mul_assoc := Nat.mul_assoc
  mul_comm := Nat.mul_comm
  one_mul := Nat.one_mul
  zero_mul := Nat.zero_mul
  mul_add := Nat.mul_add

/-- What is least. -/
abbrev MinP := Option Nat
def MinP.add : MinP → MinP → MinP
  | none, b => b
  | some a, none => some a
  | some a, some b => some (min a b)
def MinP.mul : MinP → MinP → MinP
  | some a, some b => some (a + b)
  | _, _ => none
instance : SR MinP where
  add := MinP.add
  mul := MinP.mul
  zero := none
  one := some 0
  add_assoc a b c := by cases a <;> cases b <;> cases c <;> simp [MinP.add] <;> omega
  add_comm a b := by cases a <;> cases b <;> simp [MinP.add] <;> omega
  zero_add a := by cases a <;> rfl
  mul_assoc a b c := by cases a <;> cases b <;> cases c <;> simp [MinP.mul] <;> omega
  mul_comm a b := by cases a <;> cases b <;> simp [MinP.mul] <;> omega
  one_mul a := by cases a <;> simp [MinP.mul]
  zero_mul a := by cases a <;> rfl
  mul_add a b c := by cases a <;> cases b <;> cases c <;> simp [MinP.mul, MinP.add] <;> omega

/-- What is least, and how often. -/
abbrev Few := Option (Nat × Nat)
def Few.add : Few → Few → Few
  | none, b => b
  | some a, none => some a
  | some a, some b => if a.1 < b.1 then some a else if b.1 < a.1 then some b else some (a.1, a.2 + b.2)
def Few.mul : Few → Few → Few
  | some a, some b => some (a.1 + b.1, a.2 * b.2)
  | _, _ => none
theorem Few.add_none (a : Few) : Few.add a none = a := by cases a <;> rfl
instance : SR Few where
  add := Few.add
  mul := Few.mul
  zero := none
  one := some (0, 1)
  add_assoc a b c := by
    cases a with
    | none => rfl
    | some a =>
      cases b with
      | none => rfl
      | some b =>
        cases c with
        | none => rw [Few.add_none, Few.add_none]
        | some c =>
          simp only [Few.add]
          by_cases h1 : a.1 < b.1 <;> by_cases h2 : b.1 < a.1 <;> by_cases h3 : b.1 < c.1 <;> by_cases h4 : c.1 < b.1 <;> by_cases h5 : a.1 < c.1 <;> by_cases h6 : c.1 < a.1 <;> first | (exfalso; omega) | (simp [h1, h2, h3, h4, h5, h6, Few.add]; done) | (simp [h1, h2, h3, h4, h5, h6, Few.add]; omega)
  add_comm a b := by
    cases a <;> cases b <;> simp only [Few.add]
    rename_i a b
    by_cases h1 : a.1 < b.1 <;> by_cases h2 : b.1 < a.1 <;> first | (exfalso; omega) | (simp [h1, h2]; try omega)
  zero_add a := by cases a <;> rfl
  mul_assoc a b c := by cases a <;> cases b <;> cases c <;> simp [Few.mul, Nat.mul_assoc] <;> omega
  mul_comm a b := by cases a <;> cases b <;> simp [Few.mul, Nat.mul_comm] <;> omega
  one_mul a := by cases a <;> simp [Few.mul]
  zero_mul a := by cases a <;> rfl
  mul_add a b c := by
    cases a <;> cases b <;> cases c <;> simp only [Few.mul, Few.add]
    rename_i a b c
    by_cases h1 : b.1 < c.1 <;> by_cases h2 : c.1 < b.1 <;> first | (exfalso; omega) | (simp [h1, h2, Nat.mul_add])

theorem add_nat (a b : Nat) : SR.add a b = a + b := rfl
/-! ### Sums -/
theorem sum_count (p : List Nat → Bool) : ∀ L : List (List Nat), sumL (fun S => if p S then (1 : Nat) else (0 : Nat)) L = (L.filter p).length
  | [] => rfl
  | l :: r => by
    have ih := sum_count p r
    simp only [sumL, ih, add_nat]
    cases h : p l <;> simp [h] <;> omega
theorem minp_none (p : List Nat → Bool) (c : List Nat → Nat) : ∀ L : List (List Nat), (sumL (fun S => if p S then (some (c S) : MinP) else none) L = none ↔ ∀ l ∈ L, p l = false)
  | [] => by simp [sumL]; rfl
  | l :: r => by
    have ih := minp_none p c r
    simp only [sumL, List.mem_cons, forall_eq_or_imp]
    rw [← ih]
    cases h : p l
    · simp; rfl
    · simp only [if_true]
      generalize sumL (K := MinP) _ r = y
      cases y <;> simp [SR.add, MinP.add]
theorem minp_some (p : List Nat → Bool) (c : List Nat → Nat) : ∀ (L : List (List Nat)) (b : Nat), (sumL (fun S => if p S then (some (c S) : MinP) else none) L = some b ↔ (∃ l ∈ L, p l = true ∧ c l = b) ∧ ∀ l ∈ L, p l = true → b ≤ c l)
  | [], b => by simp [sumL, SR.zero]
  | l :: r, b => by
    have ih := minp_some p c r
    have ihn := minp_none p c r
    simp only [sumL, List.mem_cons, forall_eq_or_imp, exists_eq_or_imp]
    generalize sumL (fun S => if p S then (some (c S) : MinP) else none) r = y at *
    cases h : p l
    · simp only [Bool.false_eq_true, if_false, false_and, false_or, false_implies, true_and]
      rw [← ih b]
      cases y <;> simp [SR.add, MinP.add]
    · simp only [if_true, true_and, forall_const]
      cases y with
      | none =>
        have hn := ihn.1 rfl
        simp only [SR.add, MinP.add, Option.some.injEq]
        constructor
        · rintro rfl
          exact ⟨.inl rfl, Nat.le_refl _, fun l' hl' hp => by rw [hn l' hl'] at hp; cases hp⟩
        · rintro ⟨h1 | ⟨l', hl', hp, _⟩, _⟩
          · exact h1
          · rw [hn l' hl'] at hp; cases hp
      | some y =>
        obtain ⟨⟨l', hl', hp', e'⟩, h2⟩ := (ih y).1 rfl
        simp only [SR.add, MinP.add, Option.some.injEq]
        constructor
        · rintro rfl
          refine ⟨?_, Nat.min_le_left _ _, fun q hq hpq => Nat.le_trans (Nat.min_le_right _ _) (h2 q hq hpq)⟩
          by_cases hc : c l ≤ y
          · left; omega
          · right; exact ⟨l', hl', hp', by omega⟩
        · rintro ⟨h1, h3, h4⟩
          have := h4 l' hl' hp'
          rcases h1 with h1 | ⟨q, hq, hpq, e⟩
          · omega
          · have := h2 q hq hpq; omega
theorem few_sum (p : List Nat → Bool) (c : List Nat → Nat) : ∀ (L : List (List Nat)), sumL (fun S => if p S then (some (c S, 1) : Few) else none) L =
    match sumL (fun S => if p S then (some (c S) : MinP) else none) L with
    | none => none
    | some b => some (b, (L.filter fun l => p l && decide (c l = b)).length)
  | [] => rfl
  | l :: r => by
    have ih := few_sum p c r
    have hs := minp_some p c r
    have hn := minp_none p c r
    simp only [sumL, ih]
    generalize sumL (fun S => if p S then (some (c S) : MinP) else none) r = y at *
    cases h : p l
    · cases y <;> simp [SR.add, MinP.add, Few.add, h]
    · cases y with
      | none =>
        have hn := hn.1 rfl
        simp only [if_true, SR.add, MinP.add, Few.add, List.filter_cons, h, Bool.true_and, decide_true]
        congr 2
        have : (r.filter fun q => p q && decide (c q = c l)) = [] := by
          rw [List.filter_eq_nil_iff]; intro q hq; simp [hn q hq]
        rw [this]; rfl
      | some y =>
        obtain ⟨_, h2⟩ := (hs y).1 rfl
        simp only [if_true, SR.add, MinP.add, Few.add, List.filter_cons, h, Bool.true_and]
        by_cases h1 : c l < y
        · have : (r.filter fun q => p q && decide (c q = min (c l) y)) = [] := by
            rw [List.filter_eq_nil_iff]; intro q hq
            cases hpq : p q
            · simp
            · have := h2 q hq hpq
              simp; omega
          rw [if_pos h1, this, show min (c l) y = c l by omega]
          simp
        · by_cases h3 : y < c l
          · rw [if_neg h1, if_pos h3, show min (c l) y = y by omega, if_neg (by simp; omega)]
          · rw [if_neg h1, if_neg h3, show min (c l) y = y by omega, if_pos (by simp; omega)]
            simp [show c l = y by omega]; omega
end Go.Am.Post

/-
  Plain: ascending lists; the first one that is as good as can be is found place by place. No statement of the seat is proved here.
-/
set_option linter.unusedVariables false
set_option linter.unusedSimpArgs false
namespace Go.Am.Post
open SR

/-- Ascending, from a number on. -/
def up : Nat → List Nat → Prop
  | _, [] => True
  | i, x :: r => i ≤ x ∧ up (x + 1) r
theorem up_le {i j : Nat} (h : i ≤ j) : ∀ {l : List Nat}, up j l → up i l
  | [], _ => trivial
  | x :: r, ⟨a, b⟩ => ⟨by omega, b⟩
theorem up_ge : ∀ {l : List Nat} {i : Nat}, up i l → ∀ x ∈ l, i ≤ x
  | [], _, _, x, h => by cases h
  | y :: r, i, ⟨a, b⟩, x, h => by
    rcases List.mem_cons.1 h with rfl | h
    · exact a
    · have := up_ge b x h; omega
theorem mem_asc (d : Nat) : ∀ (i : Nat) (l : List Nat), l ∈ asc i d ↔ up i l ∧ ∀ x ∈ l, x < i + d := by
  induction d with
  | zero =>
    intro i l
    simp only [asc, List.mem_singleton]
    constructor
    · rintro rfl; simp [up]
    · rintro ⟨h1, h2⟩
      cases l with
      | nil => rfl
      | cons x r => have := h2 x (by simp); have := h1.1; omega
  | succ d ih =>
    intro i l
    have hh : l ∈ asc i (d + 1) ↔ l ∈ (asc (i + 1) d).map (i :: ·) ∨ l ∈ asc (i + 1) d := by
      rw [show asc i (d + 1) = [] :: ((asc (i + 1) d).map (i :: ·) ++ (asc (i + 1) d).tail) from rfl]
      conv => rhs; rhs; rw [asc_head]
      simp only [List.mem_cons, List.mem_append]
      constructor
      · rintro (h | h | h)
        · exact .inr (.inl h)
        · exact .inl h
        · exact .inr (.inr h)
      · rintro (h | h | h)
        · exact .inr (.inl h)
        · exact .inl h
        · exact .inr (.inr h)
    rw [hh, List.mem_map, ih]
    constructor
    · rintro (⟨l', h, rfl⟩ | h)
      · rw [ih] at h
        exact ⟨⟨Nat.le_refl _, h.1⟩, fun x hx => by
          rcases List.mem_cons.1 hx with rfl | hx
          · omega
          · have := h.2 x hx; omega⟩
      · exact ⟨up_le (by omega) h.1, fun x hx => by have := h.2 x hx; omega⟩
    · rintro ⟨h1, h2⟩
      cases l with
      | nil => right; exact ⟨trivial, by simp⟩
      | cons x r =>
        by_cases e : x = i
        · subst e
          left
          refine ⟨r, (ih _ _).2 ⟨h1.2, fun y hy => ?_⟩, rfl⟩
          have := h2 y (by simp [hy]); omega
        · right
          refine ⟨⟨by have := h1.1; omega, h1.2⟩, fun y hy => ?_⟩
          have := h2 y hy; omega
theorem up_ext : ∀ {a b : List Nat} {i : Nat}, up i a → up i b → (∀ x, x ∈ a ↔ x ∈ b) → a = b
  | [], [], _, _, _, _ => rfl
  | [], y :: s, _, _, _, h => by have := (h y).2 (by simp); cases this
  | x :: r, [], _, _, _, h => by have := (h x).1 (by simp); cases this
  | x :: r, y :: s, i, ⟨a1, a2⟩, ⟨b1, b2⟩, h => by
    have e : x = y := by
      have h1 := (h x).1 (by simp)
      have h2 := (h y).2 (by simp)
      rcases List.mem_cons.1 h1 with h1 | h1
      · exact h1
      · rcases List.mem_cons.1 h2 with h2 | h2
        · exact h2.symm
        · have := up_ge b2 x h1; have := up_ge a2 y h2; omega
    subst e
    rw [up_ext a2 b2 fun z => ?_]
    have := h z
    simp only [List.mem_cons] at this
    constructor
    · intro hz
      rcases this.1 (.inr hz) with rfl | h'
      · have := up_ge a2 z hz; omega
      · exact h'
    · intro hz
      rcases this.2 (.inr hz) with rfl | h'
      · have := up_ge b2 z hz; omega
      · exact h'
theorem up_append : ∀ {a b : List Nat} {i j : Nat}, up i a → (∀ x ∈ a, x < j) → up j b → i ≤ j → up i (a ++ b)
  | [], b, i, j, _, _, hb, hij => up_le hij hb
  | x :: r, b, i, j, ⟨a1, a2⟩, h, hb, hij => ⟨a1, up_append a2 (fun y hy => h y (by simp [hy])) hb (by have := h x (by simp); omega)⟩
theorem up_filter (p : Nat → Bool) : ∀ {l : List Nat} {i : Nat}, up i l → up i (l.filter p)
  | [], _, _ => trivial
  | x :: r, i, ⟨a, b⟩ => by
    rw [List.filter_cons]
    split
    · exact ⟨a, up_filter p b⟩
    · exact up_le (by omega) (up_filter p b)
theorem up_split (j : Nat) : ∀ {l : List Nat} {i : Nat}, up i l → l = l.filter (fun x => decide (x < j)) ++ l.filter (fun x => decide (j ≤ x))
  | [], _, _ => rfl
  | x :: r, i, ⟨a, b⟩ => by
    by_cases h : x < j
    · conv => lhs; rw [up_split j b]
      simp [h, Nat.not_le.2 h]
    · have h1 : r.filter (fun x => decide (x < j)) = [] := by
        rw [List.filter_eq_nil_iff]; intro y hy; have := up_ge b y hy; simp; omega
      have h2 : r.filter (fun x => decide (j ≤ x)) = r := by
        rw [List.filter_eq_self]; intro y hy; have := up_ge b y hy; simp; omega
      simp [h, Nat.not_lt.1 h, h1, h2]

/-! ### The first one place by place -/
/-- What is known of some tests: is there something good with just these; is there something good with these, and one more. -/
def firstG (here : List Nat → Nat → Bool) (more : List Nat → Nat → Bool) : Nat → Nat → List Nat → List Nat
  | 0, _, M => M
  | d + 1, i, M => if here M i then M else if more M i then firstG here more d (i + 1) (M ++ [i]) else firstG here more d (i + 1) M
theorem find_map {α β} (p : β → Bool) (g : α → β) : ∀ l : List α, (l.map g).find? p = (l.find? fun x => p (g x)).map g
  | [] => rfl
  | a :: r => by simp only [List.map_cons, List.find?_cons, find_map p g r]; cases p (g a) <;> rfl
theorem first_ok (n : Nat) (good : List Nat → Bool) (here more : List Nat → Nat → Bool)
    (hh : ∀ i M, i < n → M ∈ asc 0 i → (here M i = true ↔ good M = true))
    (hm : ∀ i M, i < n → M ∈ asc 0 i → (more M i = true ↔ ∃ S ∈ asc (i + 1) (n - (i + 1)), good (M ++ i :: S) = true)) (d : Nat) :
    ∀ i M, i + d = n → M ∈ asc 0 i → (∃ S ∈ asc i d, good (M ++ S) = true) → ∃ S, (asc i d).find? (fun S => good (M ++ S)) = some S ∧ firstG here more d i M = M ++ S := by
  induction d with
  | zero =>
    rintro i M hi hM ⟨S, hS, hg⟩
    simp only [asc, List.mem_singleton] at hS
    subst hS
    exact ⟨[], by simpa [asc] using hg, by simp [firstG]⟩
  | succ d ih =>
    rintro i M hi hM ⟨S, hS, hg⟩
    have hMm := (mem_asc _ _ _).1 hM
    rw [show asc i (d + 1) = [] :: ((asc (i + 1) d).map (i :: ·) ++ (asc (i + 1) d).tail) from rfl, firstG]
    cases h1 : good M
    · have e1 : here M i = false := by
        rw [Bool.eq_false_iff]; intro h; rw [(hh i M (by omega) hM).1 h] at h1; cases h1
      have e2 := hm i M (by omega) hM
      rw [show n - (i + 1) = d by omega] at e2
      have h1' : good (M ++ []) = false := by rw [List.append_nil]; exact h1
      have htail : (asc (i + 1) d).find? (fun S => good (M ++ S)) = (asc (i + 1) d).tail.find? (fun S => good (M ++ S)) := by
        conv => lhs; rw [asc_head]
        rw [List.find?_cons, h1']
      simp only [e1, Bool.false_eq_true, if_false, List.find?_cons, h1', List.find?_append, find_map]
      by_cases h2 : more M i = true
      · obtain ⟨S', hS', hg'⟩ := e2.1 h2
        obtain ⟨S0, f1, f2⟩ := ih (i + 1) (M ++ [i]) (by omega) ((mem_asc _ _ _).2 ⟨up_append hMm.1 (fun x hx => by have := hMm.2 x hx; omega) (show up i [i] from ⟨Nat.le_refl _, trivial⟩) (by omega), fun x hx => by
          rcases List.mem_append.1 hx with hx | hx
          · have := hMm.2 x hx; omega
          · simp at hx; omega⟩) ⟨S', hS', by simpa using hg'⟩
        refine ⟨i :: S0, ?_, by rw [if_pos h2, f2]; simp⟩
        simp only [List.append_assoc, List.singleton_append] at f1
        rw [f1]; rfl
      · have hno : ∀ S ∈ asc (i + 1) d, good (M ++ i :: S) = false := fun S hS => by
          rw [Bool.eq_false_iff]; intro h; exact h2 (e2.2 ⟨S, hS, h⟩)
        have hf : (asc (i + 1) d).find? (fun x => good (M ++ i :: x)) = none := by
          rw [List.find?_eq_none]; intro x hx; simp [hno x hx]
        have hex : ∃ S ∈ asc (i + 1) d, good (M ++ S) = true := by
          have hS' := (mem_asc _ _ _).1 hS
          cases S with
          | nil => rw [List.append_nil, h1] at hg; cases hg
          | cons x r =>
            by_cases e : x = i
            · subst e
              rw [hno r ((mem_asc _ _ _).2 ⟨hS'.1.2, fun y hy => by have := hS'.2 y (by simp [hy]); omega⟩)] at hg; cases hg
            · exact ⟨x :: r, (mem_asc _ _ _).2 ⟨⟨by have := hS'.1.1; omega, hS'.1.2⟩, fun y hy => by have := hS'.2 y hy; omega⟩, hg⟩
        obtain ⟨S0, f1, f2⟩ := ih (i + 1) M (by omega) ((mem_asc _ _ _).2 ⟨hMm.1, fun x hx => by have := hMm.2 x hx; omega⟩) hex
        refine ⟨S0, ?_, by rw [if_neg h2, f2]⟩
        rw [hf, ← htail, f1]; rfl
    · rw [if_pos ((hh i M (by omega) hM).2 h1)]
      exact ⟨[], by simp [h1], by simp⟩
end Go.Am.Post

/-
  Plain: the cheapest posts, place by place. No statement of the seat is proved here.
-/
set_option linter.unusedVariables false
set_option linter.unusedSimpArgs false
namespace Go.Am.Post
open SR
variable (par : Nat → Nat) (n : Nat) (price : Nat → Nat)

def dom (S : List Nat) : Bool := allN (okS par (fun _ => false) (fun _ => false) S) n
def cost (S : List Nat) : Nat := (S.map price).sum
def cst (S : List Nat) : Nat → Nat
  | 0 => 0
  | k + 1 => cst S k + if k ∈ S then price k else 0
theorem cst_append (S : List Nat) (x : Nat) (hx : x ∉ S) : ∀ k, cst price (S ++ [x]) k = cst price S k + if x < k then price x else 0
  | 0 => by simp [cst]
  | k + 1 => by
    rw [cst, cst, cst_append S x hx k]
    by_cases h : k = x
    · subst h; simp [hx]
    · have : (x < k + 1) = (x < k) := by rw [eq_iff_iff]; omega
      simp only [List.mem_append, List.mem_singleton, h, or_false, this]; omega
theorem cst_cost (k : Nat) (S : List Nat) (h : S ∈ asc 0 k) : cst price S k = cost price S := by
  induction k generalizing S with
  | zero => simp [asc] at h; subst h; simp [cst, cost]
  | succ k ih =>
    have hm := (mem_asc _ _ _).1 h
    by_cases hk : k ∈ S
    · have e : S = S.filter (fun x => decide (x < k)) ++ [k] := by
        have h1 := up_split k hm.1
        have h2 : S.filter (fun x => decide (k ≤ x)) = [k] := by
          refine up_ext (i := 0) (up_filter _ hm.1) (b := [k]) ⟨by omega, trivial⟩ fun x => ?_
          simp only [List.mem_filter, decide_eq_true_eq, List.mem_singleton]
          constructor
          · rintro ⟨a, b⟩; have := hm.2 x a; omega
          · rintro rfl; exact ⟨hk, Nat.le_refl _⟩
        rw [h2] at h1; exact h1
      have h0 : S.filter (fun x => decide (x < k)) ∈ asc 0 k := (mem_asc _ _ _).2 ⟨up_filter _ hm.1, fun x hx => by simp at hx; omega⟩
      have hn : k ∉ S.filter (fun x => decide (x < k)) := by simp
      have := ih _ h0
      rw [e, cst, cst_append _ _ _ hn, this]
      simp [cost]
    · rw [cst, if_neg hk, ih S ((mem_asc _ _ _).2 ⟨hm.1, fun x hx => by
        have := hm.2 x hx
        have : x ≠ k := fun e => hk (e ▸ hx)
        omega⟩)]
      simp
theorem costN_minp (S : List Nat) : ∀ k, costN (K := MinP) (fun v => some (price v)) S k = some (cst price S k)
  | 0 => rfl
  | k + 1 => by
    have := costN_minp S k
    unfold costN at *
    rw [prodN, this, cst]
    by_cases h : k ∈ S
    · simp [h, SR.mul, MinP.mul]
    · simp [h, SR.mul, MinP.mul, SR.one]
theorem okS_iff (must mustNot : Nat → Bool) (S : List Nat) : allN (okS par must mustNot S) n = true ↔ dom par n S = true ∧ (∀ v, v < n → must v = true → v ∈ S) ∧ (∀ v, v < n → v ∈ S → mustNot v = false) := by
  unfold dom
  rw [allN_iff, allN_iff]
  constructor
  · intro h
    refine ⟨fun v hv => ?_, fun v hv hm => ?_, fun v hv hm => ?_⟩
    · have := h v hv
      unfold okS at *
      split at this <;> simp_all
    · have := h v hv
      unfold okS at this
      split at this
      · assumption
      · simp [hm] at this
    · have := h v hv
      unfold okS at this
      simpa [hm] using this
  · rintro ⟨h1, h2, h3⟩ v hv
    have a := h1 v hv
    unfold okS at *
    by_cases hS : v ∈ S
    · simp [hS, h3 v hv hS]
    · have : must v = false := by rw [Bool.eq_false_iff]; intro h; exact hS (h2 v hv h)
      simp only [hS, if_false, this] at *
      exact a
/-- The least cost of posts that guard, with some and without others. -/
def wh (must mustNot : Nat → Bool) : MinP := sumL (fun S => if allN (okS par must mustNot S) n then (some (cost price S) : MinP) else none) (asc 0 n)
theorem wh_some (must mustNot : Nat → Bool) (b : Nat) : wh par n price must mustNot = some b ↔ (∃ S ∈ asc 0 n, (dom par n S = true ∧ (∀ v, v < n → must v = true → v ∈ S) ∧ (∀ v, v < n → v ∈ S → mustNot v = false)) ∧ cost price S = b) ∧ ∀ S ∈ asc 0 n, (dom par n S = true ∧ (∀ v, v < n → must v = true → v ∈ S) ∧ (∀ v, v < n → v ∈ S → mustNot v = false)) → b ≤ cost price S := by
  unfold wh
  rw [minp_some (fun S => allN (okS par must mustNot S) n)]
  simp only [okS_iff]
theorem wh_none (must mustNot : Nat → Bool) : wh par n price must mustNot = none ↔ ∀ S ∈ asc 0 n, ¬ (dom par n S = true ∧ (∀ v, v < n → must v = true → v ∈ S) ∧ (∀ v, v < n → v ∈ S → mustNot v = false)) := by
  unfold wh
  rw [minp_none (fun S => allN (okS par must mustNot S) n)]
  constructor
  · intro h S hS hc
    rw [← okS_iff] at hc
    rw [h S hS] at hc; cases hc
  · intro h S hS
    rw [Bool.eq_false_iff]; intro hc
    exact h S hS ((okS_iff _ _ _ _ _).1 hc)

def all (n : Nat) : List Nat := List.range n
theorem up_range' : ∀ (d i : Nat), up i (List.range' i d)
  | 0, _ => trivial
  | d + 1, i => ⟨Nat.le_refl _, up_range' d (i + 1)⟩
theorem range_asc : List.range n ∈ asc 0 n := (mem_asc _ _ _).2 ⟨by rw [List.range_eq_range']; exact up_range' n 0, fun x hx => by simpa using hx⟩
theorem dom_range : dom par n (List.range n) = true := by
  rw [dom, allN_iff]
  intro v hv
  simp [okS, hv]
/-- There is a least cost. -/
theorem wh_best : ∃ b, wh par n price (fun _ => false) (fun _ => false) = some b ∧ b ≤ cost price (List.range n) := by
  cases h : wh par n price (fun _ => false) (fun _ => false) with
  | none => exact absurd ⟨dom_range par n, by simp, by simp⟩ ((wh_none _ _ _ _ _).1 h _ (range_asc n))
  | some b => exact ⟨b, rfl, ((wh_some _ _ _ _ _ b).1 h).2 _ (range_asc n) ⟨dom_range par n, by simp, by simp⟩⟩

def goodC (b : Nat) (S : List Nat) : Bool := dom par n S && decide (cost price S = b)
def hereC (b : Nat) (M : List Nat) (i : Nat) : Bool := decide (wh par n price (fun v => decide (v ∈ M)) (fun v => decide (v ∉ M)) = some b)
def moreC (b : Nat) (M : List Nat) (i : Nat) : Bool := decide (wh par n price (fun v => decide (v ∈ M ∨ v = i)) (fun v => decide (v < i ∧ v ∉ M)) = some b)
theorem hereC_ok (b : Nat) (hb : wh par n price (fun _ => false) (fun _ => false) = some b) (i : Nat) (M : List Nat) (hi : i < n) (hM : M ∈ asc 0 i) : hereC par n price b M i = true ↔ goodC par n price b M = true := by
  have hMm := (mem_asc _ _ _).1 hM
  have hmin := ((wh_some _ _ _ _ _ _).1 hb).2
  unfold hereC goodC
  rw [decide_eq_true_eq, wh_some, Bool.and_eq_true, decide_eq_true_eq]
  constructor
  · rintro ⟨⟨S, hS, ⟨h1, h2, h3⟩, h4⟩, _⟩
    have e : S = M := up_ext ((mem_asc _ _ _).1 hS).1 hMm.1 fun x => by
      constructor
      · intro hx
        have := h3 x (by have := ((mem_asc _ _ _).1 hS).2 x hx; omega) hx
        simpa using this
      · intro hx; exact h2 x (by have := hMm.2 x hx; omega) (by simpa using hx)
    subst e
    exact ⟨h1, h4⟩
  · rintro ⟨h1, h2⟩
    refine ⟨⟨M, (mem_asc _ _ _).2 ⟨hMm.1, fun x hx => by have := hMm.2 x hx; omega⟩, ⟨h1, fun v _ hv => by simpa using hv, fun v _ hv => by simpa using hv⟩, h2⟩, fun S hS ⟨h3, _, _⟩ => hmin S hS ⟨h3, by simp, by simp⟩⟩
theorem moreC_ok (b : Nat) (hb : wh par n price (fun _ => false) (fun _ => false) = some b) (i : Nat) (M : List Nat) (hi : i < n) (hM : M ∈ asc 0 i) : moreC par n price b M i = true ↔ ∃ S ∈ asc (i + 1) (n - (i + 1)), goodC par n price b (M ++ i :: S) = true := by
  have hMm := (mem_asc _ _ _).1 hM
  have hmin := ((wh_some _ _ _ _ _ _).1 hb).2
  unfold moreC
  rw [decide_eq_true_eq, wh_some]
  constructor
  · rintro ⟨⟨S, hS, ⟨h1, h2, h3⟩, h4⟩, _⟩
    have hSm := (mem_asc _ _ _).1 hS
    have e1 : S.filter (fun x => decide (x < i)) = M := up_ext (up_filter _ hSm.1) hMm.1 fun x => by
      simp only [List.mem_filter, decide_eq_true_eq]
      constructor
      · rintro ⟨hx, hl⟩
        have := h3 x (by omega) hx
        simp only [decide_eq_false_iff_not] at this
        by_cases hxM : x ∈ M
        · exact hxM
        · exact absurd ⟨hl, hxM⟩ this
      · intro hx
        have := hMm.2 x hx
        exact ⟨h2 x (by omega) (by simp [hx]), by omega⟩
    have e2 : S.filter (fun x => decide (i ≤ x)) = i :: S.filter (fun x => decide (i + 1 ≤ x)) := by
      refine up_ext (i := 0) (up_filter _ hSm.1) ⟨by omega, ?_⟩ fun x => ?_
      · have : ∀ {l : List Nat} {j : Nat}, up j l → (∀ x ∈ l, i + 1 ≤ x) → up (i + 1) l := by
          intro l j h hl
          cases l with
          | nil => trivial
          | cons y r => exact ⟨hl y (by simp), h.2⟩
        exact this (up_filter _ hSm.1) fun x hx => by simp at hx; omega
      · simp only [List.mem_filter, decide_eq_true_eq, List.mem_cons]
        constructor
        · rintro ⟨hx, hl⟩
          by_cases e : x = i
          · exact .inl e
          · exact .inr ⟨hx, by omega⟩
        · rintro (rfl | ⟨hx, hl⟩)
          · exact ⟨h2 x hi (by simp), Nat.le_refl _⟩
          · exact ⟨hx, by omega⟩
    have e := up_split i hSm.1
    rw [e1, e2] at e
    refine ⟨S.filter (fun x => decide (i + 1 ≤ x)), (mem_asc _ _ _).2 ⟨?_, fun x hx => ?_⟩, ?_⟩
    · have := up_filter (fun x => decide (i ≤ x)) hSm.1
      rw [e2] at this
      exact this.2
    · simp only [List.mem_filter, decide_eq_true_eq] at hx
      have := hSm.2 x hx.1; omega
    · rw [← e, goodC, h1, h4]; simp
  · rintro ⟨S, hS, hg⟩
    have hSm := (mem_asc _ _ _).1 hS
    simp only [goodC, Bool.and_eq_true, decide_eq_true_eq] at hg
    refine ⟨⟨M ++ i :: S, (mem_asc _ _ _).2 ⟨up_append hMm.1 (fun x hx => by have := hMm.2 x hx; omega) (show up i (i :: S) from ⟨Nat.le_refl _, hSm.1⟩) (by omega), fun x hx => ?_⟩, ⟨hg.1, fun v _ hv => ?_, fun v _ hv => ?_⟩, hg.2⟩, fun S hS ⟨h3, _, _⟩ => hmin S hS ⟨h3, by simp, by simp⟩⟩
    · simp only [List.mem_append, List.mem_cons] at hx
      rcases hx with hx | rfl | hx
      · have := hMm.2 x hx; omega
      · omega
      · have := hSm.2 x hx; omega
    · simp only [decide_eq_true_eq] at hv
      rcases hv with hv | rfl <;> simp [*]
    · simp only [decide_eq_false_iff_not]
      rintro ⟨hl, hvM⟩
      simp only [List.mem_append, List.mem_cons] at hv
      rcases hv with hv | rfl | hv
      · exact hvM hv
      · omega
      · have := up_ge hSm.1 v hv; omega
/-- The first of the cheapest posts. -/
theorem firstC_ok (b : Nat) (hb : wh par n price (fun _ => false) (fun _ => false) = some b) : (asc 0 n).find? (goodC par n price b) = some (firstG (hereC par n price b) (moreC par n price b) n 0 []) := by
  obtain ⟨⟨S, hS, ⟨h1, _⟩, h2⟩, _⟩ := (wh_some _ _ _ _ _ _).1 hb
  obtain ⟨S0, f1, f2⟩ := first_ok n (goodC par n price b) _ _ (hereC_ok par n price b hb) (moreC_ok par n price b hb) n 0 [] (by omega) (by simp [asc]) ⟨S, hS, by simp [goodC, h1, h2]⟩
  rw [f2]
  simpa using f1
end Go.Am.Post


