import Derived.Test.YthnaeifkngeenaaPostC2
/-
  What functions of chapter 12 compute, 3: what is at hand, bit for bit; the reference's.
-/
set_option linter.unusedVariables false
set_option linter.unusedSimpArgs false
set_option maxRecDepth 10000
namespace Go.Am.Post
open Go.Am.G

theorem zeros_u (n : Nat) : zerosL [.int .u64 0] n = nats (List.replicate n 0) := by
  unfold zerosL
  apply List.ext_getElem (by simp)
  intro i h1 h2
  simp [Nat.mod_one]
theorem hloop_length (s : List Int) (n : Nat) : ∀ (k : Nat) (h : List Nat), (hloop s n k h).length = h.length := by
  induction n with
  | zero => intro k h; rfl
  | succ n ih =>
    intro k h
    rw [hloop, ih, hstep]
    split <;> simp [hset_length]
theorem handsV_length (s : List Int) : (handsV s).length = s.length := by rw [handsV, hloop_length]; simp
/-- A shore that is checked. -/
structure OkS (s : List Int) : Prop where
  pos : 0 < s.length
  le : s.length ≤ 10
  h0 : s.getD 0 0 = -1
  hi : ∀ i, 0 < i → i < s.length → 0 ≤ s.getD i 0 ∧ s.getD i 0 < i
theorem anyBad_ok : ∀ (l : List Int) (i : Nat), anyBad i l = false → ∀ j, 0 < i + j → j < l.length → 0 ≤ l.getD j 0 ∧ l.getD j 0 < ((i + j : Nat) : Int)
  | [], i, _, j, _, h => by simp at h
  | x :: r, i, h, j, h0, hj => by
    rw [anyBad, Bool.or_eq_false_iff] at h
    cases j with
    | zero =>
      have := h.1
      rw [Bool.eq_false_iff] at this
      have h3 : ¬ (0 < i ∧ (x < 0 ∨ (i : Int) ≤ x)) := fun c => this ((badAt_of _ _).2 c)
      simp
      constructor
      · by_cases c : x < 0
        · exact absurd ⟨by omega, .inl c⟩ h3
        · omega
      · by_cases c : (i : Int) ≤ x
        · exact absurd ⟨by omega, .inr c⟩ h3
        · omega
    | succ j =>
      have := anyBad_ok r (i + 1) h.2 j (by omega) (by simpa using hj)
      rw [List.getD_cons_succ]
      rw [show i + (j + 1) = i + 1 + j by omega]
      exact this
theorem okS_of {s : List Int} (h : chkS s = 0) : OkS s := by
  unfold chkS at h
  split at h
  · omega
  · rename_i h1
    split at h
    · omega
    · rename_i h2
      split at h
      · omega
      · rename_i h3
        split at h
        · omega
        · rename_i h4
          refine ⟨by omega, by omega, by simpa using h3, fun i h0 hi => ?_⟩
          have := anyBad_ok s 0 (by simpa using h4) i (by omega) hi
          simpa using this
theorem OkS.lt {s : List Int} (K : OkS s) (v : Nat) (hv : v < s.length) : s.getD v 0 < (s.length : Int) := by
  by_cases h : v = 0
  · subst h; rw [K.h0]; have := K.pos; omega
  · have := (K.hi v (by omega) hv).2; omega
abbrev UH (h : List Nat) : LV := .lst false true 1 h.length (nats h)
theorem hands_c (nl ex : Bool) (sz : Nat) {s : List Int} (K : OkS s) (m : LMem) : clF LP n_post_hands [IL nl ex sz s] m = some (.P, UH (handsV s), m) := by
  have h10 := K.le
  have h := hands_loop nl ex sz s s.length rfl K.le K.lt s.length 0 (List.replicate s.length 0) (by omega) (by simp) (by
    intro i
    simp only [List.getD_eq_getElem?_getD, List.getElem?_replicate]
    split <;> simp)
  simp only [Int.natCast_zero] at h
  change exF LP post_hands.L0 _ _ = some (.exit 0, _, [⟨nats (handsV s), true⟩]) at h
  have hv : view 40 [⟨nats (handsV s), true⟩] (.sl 0 0 s.length s.length 0 1 s.length) = some (UH (handsV s), [0]) := by
    have := view_slc 37 [⟨nats (handsV s), true⟩] 0 0 s.length s.length 0 s.length 1 (nats (handsV s)) true rfl (by rw [List.drop_zero, List.take_of_length_le (by simp [handsV_length])]; exact pures_nats _) (by simp [handsV_length]) (by omega) (by omega)
    rw [this, List.drop_zero, List.take_of_length_le (by simp [handsV_length])]
    simp [nbeq, handsV_length]
  have r1 : s.length * 8 ≤ roomMost := by unfold roomMost; omega
  have r2 : s.length ≤ roomMost := by unfold roomMost; omega
  refine call_Pv lp_post_hands rfl (by simp [LV.pures, LV.pure]) ?_ hv m
  simp only [post_hands, post_hands.B, beqT, beqF, exF_seq, exF_region, exF_block, exF_cond, exF_ret, exF_exit, exF_skip, runL, wantL, stepL, evL, LEnv.at, putL, loadFine, loadL, cellsAt, Trk.putNew, Trk.up, Trk.touch, Trk.gives, Trk.calm, Trk.hit, opdsOf, Trk.fresh, LEnv.keep, LEnv.ofFrom, List.map_cons, List.map_nil, nbeq, nble, nblt, ofAV, ofAVs, lenL, bin_add, bin_sub, bin_mul, bin_eql, bin_neq, bin_lss, bin_leq, bin_gtr, bin_geq, natL_nat, natL_zero, natL_one, natL_two, Nat.zero_mul, List.any_cons, List.any_nil, Bool.or_false, Bool.false_or, Bool.true_or, Bool.or_true, Bool.and_true, Bool.true_and, Bool.and_false, Bool.false_and, Bool.not_true, Bool.not_false, Nat.reduceBEq, Nat.reduceEqDiff, decide_true, decide_false, cond_true, cond_false, List.filter_nil, List.filter_cons, Nat.reduceAdd, Nat.reduceLeDiff, reduceCtorEq, List.length_nil, List.length_cons, Nat.mul_one, if_true, if_false, Bool.false_eq_true, eq_self, and_true, true_and, retL, resultsL, resAllL, resOfL, List.append_nil, List.nil_append, List.cons_append, true_or, or_true, false_or, or_false, false_and, and_false, not_true_eq_false, not_false_eq_true, ne_eq, unL, trim_nil, views_pures, LV.pures, LV.pure, freeze, Nat.reduceDiv, Int.reduceEq, Int.reduceLT, Int.reduceLE, Int.natCast_zero, LV.cells, allocL, List.getElem?_cons_zero, List.getElem?_cons_succ, storeL, spliceL, List.take_zero, List.take_succ_cons, List.drop_zero, List.drop_succ_cons, List.drop_nil, List.take_nil, Nat.le_refl, Nat.reduceMul, List.set_cons_zero, List.set_cons_succ, LV.scalar, List.all_cons, List.all_nil, Nat.lt_add_one, Nat.zero_lt_one, Nat.reduceLT, Nat.lt_irrefl, fillL, List.length_append, foldIntL, kind_beq, pures_int, solids_int, plains_int, unders_int, scalars_int, r1, r2, zeros_u, h]

/-! ### Bit for bit -/
def nb (s : List Int) (v u : Nat) : Bool := decide (u = v) || (decide (s.getD u 0 = v) || decide (s.getD v 0 = u))
def PB (s : List Int) (k : Nat) (h : List Nat) : Prop := ∀ v, v < s.length → ∀ u, ((h.getD v 0).testBit u = true ↔ (u = v ∧ v < k) ∨ (v < k ∧ s.getD v 0 = u) ∨ (u < k ∧ s.getD u 0 = v))
theorem hstep_bit {s : List Int} (K : OkS s) (k : Nat) (hk : k < s.length) (h : List Nat) (hl : h.length = s.length) (H : PB s k h) : PB s (k + 1) (hstep s k h) := by
  intro v hv u
  have e := H v hv u
  unfold hstep
  by_cases h0 : 0 ≤ s.getD k 0
  · obtain ⟨b, hb⟩ := Int.eq_ofNat_of_zero_le h0
    have hkp : 0 < k := by
      by_cases c : k = 0
      · subst c; rw [K.h0] at hb; omega
      · omega
    have hbk : b < k := by have := (K.hi k hkp hk).2; omega
    rw [if_pos h0, hb, Int.toNat_natCast]
    simp only [getD_hset, hset_length, hl, show b < s.length by omega, hk, and_true, show ¬ b = k by omega, if_false, if_true]
    by_cases c1 : v = b
    · subst c1
      simp only [if_true, show ¬ v = k by omega, if_false, Nat.testBit_or, Nat.testBit_two_pow, Bool.or_eq_true, decide_eq_true_eq, e]
      constructor
      · rintro (h | rfl)
        · omega
        · right; right; exact ⟨by omega, hb⟩
      · rintro (⟨rfl, _⟩ | ⟨h1, h2⟩ | ⟨h1, h2⟩)
        · left; left; exact ⟨rfl, hbk⟩
        · left; right; left; exact ⟨hbk, h2⟩
        · by_cases c : u = k
          · right; exact c.symm
          · left; right; right; exact ⟨by omega, h2⟩
    · by_cases c2 : v = k
      · subst c2
        simp only [if_neg c1, if_true, Nat.testBit_or, Nat.testBit_two_pow, Bool.or_eq_true, decide_eq_true_eq, e]
        constructor
        · rintro ((h | rfl) | rfl)
          · omega
          · left; exact ⟨rfl, by omega⟩
          · right; left; exact ⟨by omega, hb⟩
        · rintro (⟨rfl, _⟩ | ⟨h1, h2⟩ | ⟨h1, h2⟩)
          · left; right; rfl
          · right; omega
          · by_cases c : u = v
            · subst c; omega
            · left; left; right; right; exact ⟨by omega, h2⟩
      · simp only [if_neg c1, if_neg c2, e]
        constructor
        · rintro (h | h | h) <;> omega
        · rintro (⟨rfl, _⟩ | ⟨h1, h2⟩ | ⟨h1, h2⟩)
          · left; exact ⟨rfl, by omega⟩
          · right; left; exact ⟨by omega, h2⟩
          · by_cases c : u = k
            · subst c; omega
            · right; right; exact ⟨by omega, h2⟩
  · have hk0 : k = 0 := by
      by_cases c : k = 0
      · exact c
      · exact absurd (K.hi k (by omega) hk).1 h0
    subst hk0
    rw [if_neg h0, getD_hset]
    have h00 := K.h0
    by_cases c2 : v = 0
    · subst c2
      simp only [hl, hk, and_self, if_true, Nat.testBit_or, Nat.testBit_two_pow, Bool.or_eq_true, decide_eq_true_eq, e]
      constructor
      · rintro (h | rfl) <;> omega
      · rintro (⟨rfl, _⟩ | ⟨h1, h2⟩ | ⟨h1, h2⟩)
        · right; rfl
        · omega
        · have : u = 0 := by omega
          subst this; omega
    · simp only [c2, false_and, if_false, e]
      constructor
      · rintro (h | h | h) <;> omega
      · rintro (⟨rfl, _⟩ | ⟨h1, h2⟩ | ⟨h1, h2⟩)
        · omega
        · omega
        · have : u = 0 := by omega
          subst this; omega
theorem hstep_length (s : List Int) (k : Nat) (h : List Nat) : (hstep s k h).length = h.length := by
  unfold hstep; split <;> simp [hset_length]
theorem hloop_bit {s : List Int} (K : OkS s) (n : Nat) : ∀ k h, k + n = s.length → h.length = s.length → PB s k h → PB s s.length (hloop s n k h) := by
  induction n with
  | zero => intro k h hk hl H; rw [show s.length = k by omega]; exact H
  | succ n ih =>
    intro k h hk hl H
    exact ih (k + 1) _ (by omega) (by rw [hstep_length, hl]) (hstep_bit K k (by omega) h hl H)
theorem hands_bit {s : List Int} (K : OkS s) {v : Nat} (hv : v < s.length) (u : Nat) : ((handsV s).getD v 0).testBit u = (nb s v u && decide (u < s.length)) := by
  have := hloop_bit K s.length 0 (List.replicate s.length 0) (by omega) (by simp) (by
    intro v hv u
    have : (List.replicate s.length 0).getD v 0 = 0 := by simp [List.getD_eq_getElem?_getD, List.getElem?_replicate]; split <;> rfl
    rw [this]; simp) v hv u
  rw [Bool.eq_iff_iff]
  unfold handsV
  rw [this]
  simp only [nb, Bool.and_eq_true, Bool.or_eq_true, decide_eq_true_eq]
  constructor
  · rintro (⟨rfl, h⟩ | ⟨_, h⟩ | ⟨h1, h2⟩)
    · exact ⟨.inl rfl, hv⟩
    · have := K.lt v hv
      exact ⟨.inr (.inr h), by omega⟩
    · exact ⟨.inr (.inl h2), h1⟩
  · rintro ⟨rfl | h | h, hu⟩
    · exact .inl ⟨rfl, hv⟩
    · exact .inr (.inr ⟨hu, h⟩)
    · exact .inr (.inl ⟨hv, h⟩)
theorem hands_lt {s : List Int} (K : OkS s) (v : Nat) : (handsV s).getD v 0 < 1024 := by
  by_cases hv : v < s.length
  · refine Nat.lt_pow_two_of_testBit (n := 10) _ fun i hi => ?_
    rw [hands_bit K hv]
    have := K.le
    have h1 : decide (i < s.length) = false := by simp; omega
    rw [h1, Bool.and_false]
  · have : (handsV s).getD v 0 = 0 := by
      rw [List.getD_eq_getElem?_getD, List.getElem?_eq_none (by rw [handsV_length]; omega)]; rfl
    omega

end Go.Am.Post

/-
  Plain: a shore's posts rated place by place are all posts rated one by one. No statement of the seat is proved here.
-/
set_option linter.unusedVariables false
set_option linter.unusedSimpArgs false
namespace Go.Am.Post

/-- What can be added and multiplied. -/
class SR (K : Type) where
  add : K → K → K
  mul : K → K → K
  zero : K
  one : K
  add_assoc : ∀ a b c, add (add a b) c = add a (add b c)
  add_comm : ∀ a b, add a b = add b a
  zero_add : ∀ a, add zero a = a
  mul_assoc : ∀ a b c, mul (mul a b) c = mul a (mul b c)
  mul_comm : ∀ a b, mul a b = mul b a
  one_mul : ∀ a, mul one a = a
  zero_mul : ∀ a, mul zero a = zero
  mul_add : ∀ a b c, mul a (add b c) = add (mul a b) (mul a c)
open SR
variable {K : Type} [SR K]
instance : Std.Associative (α := K) add := ⟨add_assoc⟩
instance : Std.Commutative (α := K) add := ⟨add_comm⟩
instance : Std.Associative (α := K) mul := ⟨mul_assoc⟩
instance : Std.Commutative (α := K) mul := ⟨mul_comm⟩
theorem add_zero (a : K) : add a zero = a := by rw [add_comm, zero_add]
theorem mul_one (a : K) : mul a one = a := by rw [mul_comm, one_mul]
theorem mul_zero (a : K) : mul a zero = zero := by rw [mul_comm, zero_mul]
theorem add_mul (a b c : K) : mul (add a b) c = add (mul a c) (mul b c) := by rw [mul_comm, mul_add, mul_comm c a, mul_comm c b]

/-- All ascending lists of d numbers from i on, in ascending order. -/
def asc : Nat → Nat → List (List Nat)
  | _, 0 => [[]]
  | i, d + 1 => [] :: ((asc (i + 1) d).map (i :: ·) ++ (asc (i + 1) d).tail)
theorem asc_head (i : Nat) : ∀ d, asc i d = [] :: (asc i d).tail
  | 0 => rfl
  | _ + 1 => rfl
def sumL (f : List Nat → K) : List (List Nat) → K
  | [] => zero
  | l :: r => add (f l) (sumL f r)
theorem sumL_append (f : List Nat → K) : ∀ a b, sumL f (a ++ b) = add (sumL f a) (sumL f b)
  | [], b => by simp [sumL, zero_add]
  | l :: r, b => by simp only [List.cons_append, sumL, sumL_append f r b, add_assoc]
theorem sumL_map (f : List Nat → K) (g : List Nat → List Nat) : ∀ a, sumL f (a.map g) = sumL (fun l => f (g l)) a
  | [] => rfl
  | l :: r => by simp only [List.map_cons, sumL, sumL_map f g r]
theorem sumL_add (f g : List Nat → K) : ∀ a, sumL (fun l => add (f l) (g l)) a = add (sumL f a) (sumL g a)
  | [] => by simp [sumL, zero_add]
  | l :: r => by simp only [sumL, sumL_add f g r]; ac_rfl
theorem sumL_congr (f g : List Nat → K) : ∀ a, (∀ l ∈ a, f l = g l) → sumL f a = sumL g a
  | [], _ => rfl
  | l :: r, h => by simp only [sumL, h l (by simp), sumL_congr f g r fun l hl => h l (by simp [hl])]
theorem sumA_succ (f : List Nat → K) (i d : Nat) : sumL f (asc i (d + 1)) = sumL (fun l => add (f (i :: l)) (f l)) (asc (i + 1) d) := by
  rw [sumL_add]
  show add (f []) (sumL f ((asc (i + 1) d).map (i :: ·) ++ (asc (i + 1) d).tail)) = _
  have h : sumL f (asc (i + 1) d) = add (f []) (sumL f (asc (i + 1) d).tail) := by
    conv => lhs; rw [asc_head (i + 1) d]
    rfl
  rw [sumL_append, sumL_map, h]
  ac_rfl
theorem sumA_last (d : Nat) : ∀ (i : Nat) (f : List Nat → K), sumL f (asc i (d + 1)) = sumL (fun l => add (f (l ++ [i + d])) (f l)) (asc i d) := by
  induction d with
  | zero =>
    intro i f
    simp [asc, sumL, add_zero]
    rw [add_comm]
  | succ d ih =>
    intro i f
    rw [sumA_succ, ih, sumA_succ]
    refine sumL_congr _ _ _ fun l _ => ?_
    simp only [List.cons_append, show i + 1 + d = i + (d + 1) by omega]
    ac_rfl
theorem asc_mem (d : Nat) : ∀ (i : Nat) (l : List Nat), l ∈ asc i d → ∀ x ∈ l, i ≤ x ∧ x < i + d := by
  induction d with
  | zero => intro i l h x hx; simp [asc] at h; subst h; cases hx
  | succ d ih =>
    intro i l h x hx
    simp only [asc, List.mem_cons, List.mem_append, List.mem_map] at h
    rcases h with rfl | ⟨l', h, rfl⟩ | h
    · cases hx
    · rcases List.mem_cons.1 hx with rfl | hx
      · omega
      · have := ih _ _ h x hx; omega
    · have := ih _ _ (List.mem_of_mem_tail h) x hx; omega

/-! ### The rating of places -/
structure Tri (K : Type) where
  m : K
  r : K
  w : K
def prodN (h : Nat → K) : Nat → K
  | 0 => one
  | k + 1 => mul (prodN h k) (h k)
theorem prodN_congr (g h : Nat → K) : ∀ k, (∀ v, v < k → g v = h v) → prodN g k = prodN h k
  | 0, _ => rfl
  | k + 1, e => by simp only [prodN, e k (by omega), prodN_congr g h k fun v hv => e v (by omega)]
theorem prodN_out (h : Nat → K) (b : Nat) : ∀ k, b < k → prodN h k = mul (h b) (prodN (fun v => if v = b then one else h v) k)
  | 0, e => absurd e (by omega)
  | k + 1, e => by
    by_cases hb : b = k
    · subst hb
      simp only [prodN, if_true, mul_one]
      rw [mul_comm, prodN_congr h (fun v => if v = b then one else h v) b fun v hv => by simp [show v ≠ b by omega]]
    · simp only [prodN, prodN_out h b k (by omega), if_neg (show ¬ k = b by omega), mul_assoc]
/-- Two places of which one is behind the other one. -/
def adj (par : Nat → Nat) (v u : Nat) : Bool := (decide (v ≠ 0) && decide (u = par v)) || (decide (u ≠ 0) && decide (par u = v))
def gv (par : Nat → Nat) (T : Nat → Tri K) (S : List Nat) (v : Nat) : K :=
  if v ∈ S then (T v).m else if S.any (adj par v) then add (T v).r (T v).w else (T v).r
def FF (par : Nat → Nat) (k : Nat) (T : Nat → Tri K) : K := sumL (fun S => prodN (gv par T S) k) (asc 0 k)
def mergeT (b o : Tri K) : Tri K :=
  ⟨mul b.m (add (add o.m o.r) o.w), add (mul b.r (add o.m o.r)) (mul b.w o.m), mul b.w o.r⟩
def setT (T : Nat → Tri K) (b : Nat) (x : Tri K) : Nat → Tri K := fun v => if v = b then x else T v

theorem FF_step (par : Nat → Nat) (hp : ∀ v, v ≠ 0 → par v < v) (k : Nat) (hk : k ≠ 0) (T : Nat → Tri K) : FF par (k + 1) T = FF par k (setT T (par k) (mergeT (T (par k)) (T k))) := by
  have hb := hp k hk
  generalize hB : par k = b at hb
  unfold FF
  rw [sumA_last]
  refine sumL_congr _ _ _ fun S hS => ?_
  have hlt : ∀ x ∈ S, x < k := fun x hx => by have := asc_mem k 0 S hS x hx; omega
  have hkS : k ∉ S := fun h => by have := hlt k h; omega
  have hkb : ∀ v, v < k → adj par v k = decide (v = b) := fun v hv => by
    unfold adj
    by_cases h0 : v = 0
    · subst h0; simp [hk, hB, eq_comm]
    · have := hp v h0
      simp [hk, hB, h0, show ¬ k = par v by omega, eq_comm]
  have hany : S.any (adj par k) = decide (b ∈ S) := by
    rw [Bool.eq_iff_iff]
    simp only [List.any_eq_true, decide_eq_true_eq, adj, Bool.or_eq_true, Bool.and_eq_true]
    constructor
    · rintro ⟨u, hu, h | h⟩
      · rw [hB] at h; rw [← h.2]; exact hu
      · have := hlt u hu; have := hp u h.1; omega
    · intro h; exact ⟨b, h, .inl ⟨hk, hB.symm⟩⟩
  have e1 : gv par T (S ++ [0 + k]) k = (T k).m := by simp [gv]
  have e2 : gv par T S k = if b ∈ S then add (T k).r (T k).w else (T k).r := by
    simp only [gv, hkS, if_false, hany, decide_eq_true_eq]
  have e3 : ∀ v, v < k → gv par T (S ++ [0 + k]) v = if v ∈ S then (T v).m else if v = b ∨ S.any (adj par v) = true then add (T v).r (T v).w else (T v).r := fun v hv => by
    have : v ≠ k := by omega
    simp only [gv, Nat.zero_add, List.mem_append, List.mem_singleton, this, or_false, List.any_append, List.any_cons, List.any_nil, Bool.or_false, hkb v hv, Bool.or_eq_true, decide_eq_true_eq]
    by_cases hvS : v ∈ S <;> simp [hvS, or_comm]
  have q1 : prodN (fun v => if v = b then one else gv par T (S ++ [0 + k]) v) k = prodN (fun v => if v = b then one else gv par T S v) k :=
    prodN_congr _ _ _ fun v hv => by
      by_cases hvb : v = b
      · simp [hvb]
      · simp only [if_neg hvb, e3 v hv, hvb, false_or]; rfl
  have q2 : prodN (fun v => if v = b then one else gv par (setT T b (mergeT (T b) (T k))) S v) k = prodN (fun v => if v = b then one else gv par T S v) k :=
    prodN_congr _ _ _ fun v hv => by
      by_cases hvb : v = b
      · simp [hvb]
      · simp only [if_neg hvb, gv, setT]
  simp only [prodN]
  rw [prodN_out (gv par T (S ++ [0 + k])) b k hb, prodN_out (gv par T S) b k hb, prodN_out (gv par (setT T b (mergeT (T b) (T k))) S) b k hb, q1, q2, e1, e2, e3 b hb]
  generalize prodN (fun v => if v = b then one else gv par T S v) k = Q
  have e4 : gv par (setT T b (mergeT (T b) (T k))) S b = if b ∈ S then (mergeT (T b) (T k)).m else if S.any (adj par b) then add (mergeT (T b) (T k)).r (mergeT (T b) (T k)).w else (mergeT (T b) (T k)).r := by
    simp [gv, setT]
  rw [e4]
  by_cases h1 : b ∈ S
  · simp only [gv, h1, if_true, mergeT, mul_add, add_mul]; ac_rfl
  · by_cases h2 : S.any (adj par b) = true
    · simp only [gv, h1, h2, if_true, if_false, or_true, mergeT, mul_add, add_mul]; ac_rfl
    · simp only [gv, h1, h2, if_true, if_false, true_or, mergeT, mul_add, add_mul, Bool.false_eq_true]; ac_rfl

/-- Places are looked at from the last one on. -/
def foldT (par : Nat → Nat) : Nat → (Nat → Tri K) → (Nat → Tri K)
  | 0, T => T
  | k + 1, T => foldT par k (setT T (par (k + 1)) (mergeT (T (par (k + 1))) (T (k + 1))))
theorem FF_fold (par : Nat → Nat) (hp : ∀ v, v ≠ 0 → par v < v) : ∀ (k : Nat) (T : Nat → Tri K), FF par (k + 1) T = FF par 1 (foldT par k T)
  | 0, T => rfl
  | k + 1, T => by rw [FF_step par hp (k + 1) (by omega), foldT, FF_fold par hp k]
theorem FF_one (par : Nat → Nat) (T : Nat → Tri K) : FF par 1 T = add (T 0).m (T 0).r := by
  simp [FF, asc, sumL, prodN, gv, one_mul, add_zero, adj]
  rw [add_comm]

/-- What has to be, and what may not be. -/
def startT (post : Nat → K) (must mustNot : Nat → Bool) (v : Nat) : Tri K :=
  ⟨if mustNot v then zero else post v, zero, if must v then zero else one⟩
def okS (par : Nat → Nat) (must mustNot : Nat → Bool) (S : List Nat) (v : Nat) : Bool :=
  if v ∈ S then !mustNot v else S.any (adj par v) && !must v
def allN (p : Nat → Bool) : Nat → Bool
  | 0 => true
  | k + 1 => allN p k && p k
theorem allN_iff (p : Nat → Bool) : ∀ k, allN p k = true ↔ ∀ v, v < k → p v = true
  | 0 => by simp [allN]
  | k + 1 => by
    rw [allN, Bool.and_eq_true, allN_iff p k]
    constructor
    · rintro ⟨h1, h2⟩ v hv
      by_cases e : v = k
      · rw [e]; exact h2
      · exact h1 v (by omega)
    · intro h; exact ⟨fun v hv => h v (by omega), h k (by omega)⟩
def costN (post : Nat → K) (S : List Nat) : Nat → K := prodN (fun v => if v ∈ S then post v else one)
theorem prod_start (par : Nat → Nat) (post : Nat → K) (must mustNot : Nat → Bool) (S : List Nat) : ∀ k, prodN (gv par (startT post must mustNot) S) k = if allN (okS par must mustNot S) k then costN post S k else zero
  | 0 => rfl
  | k + 1 => by
    rw [prodN, prod_start par post must mustNot S k, allN, show costN post S (k + 1) = mul (costN post S k) (if k ∈ S then post k else one) from rfl]
    cases allN (okS par must mustNot S) k
    · simp [zero_mul]
    · simp only [if_true, Bool.true_and]
      by_cases h : k ∈ S
      · cases hm : mustNot k <;> simp [gv, h, okS, startT, hm, mul_zero]
      · cases ha : S.any (adj par k) <;> cases hm : must k <;> simp [gv, h, okS, startT, hm, ha, mul_zero, zero_add, -List.any_eq_true]
theorem whole_sum (par : Nat → Nat) (hp : ∀ v, v ≠ 0 → par v < v) (post : Nat → K) (must mustNot : Nat → Bool) (n : Nat) :
    add (foldT par n (startT post must mustNot) 0).m (foldT par n (startT post must mustNot) 0).r =
      sumL (fun S => if allN (okS par must mustNot S) (n + 1) then costN post S (n + 1) else zero) (asc 0 (n + 1)) := by
  rw [← FF_one par, ← FF_fold par hp]
  exact sumL_congr _ _ _ fun S _ => prod_start par post must mustNot S (n + 1)
end Go.Am.Post


