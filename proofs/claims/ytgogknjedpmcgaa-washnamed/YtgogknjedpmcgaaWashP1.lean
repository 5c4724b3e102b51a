/-
  Plain: tides, and what is found about them; all tides of at most seven places are tried by the kernel. No statement of the seat is proved here.
-/
import Derived.KernelRfl
import Derived.Test.YtgogknjedpmcgaaWashL
import Derived.Test.YtgogknjedpmcgaaLm14
set_option linter.unusedVariables false
set_option linter.unusedSimpArgs false
namespace Go.Am.Wash

def nth : List Nat → Nat → Nat
  | [], _ => 0
  | a :: _, 0 => a
  | _ :: r, i + 1 => nth r i
def hasN : List Nat → Nat → Bool
  | [], _ => false
  | a :: r, x => cond (Nat.beq a x) true (hasN r x)
def permsC (n : Nat) (f : List Nat → List (List Nat)) (b : List Nat) : Nat → Nat → List (List Nat)
  | 0, _ => []
  | k + 1, x => (cond (hasN b x) [] (f (b ++ [x]))) ++ permsC n f b k (x + 1)
/-- All tides of n places that begin with some numbers, d numbers missing, in ascending order. -/
def perms (n : Nat) : Nat → List Nat → List (List Nat)
  | 0, b => [b]
  | d + 1, b => permsC n (perms n d) b n 0
/-- Is something so of all of these? -/
def allC (f : List Nat → Bool) (b : List Nat) : Nat → Nat → Bool
  | 0, _ => true
  | k + 1, x => cond (cond (hasN b x) true (f (b ++ [x]))) (allC f b k (x + 1)) false
def allP (n : Nat) (P : List Nat → Bool) : Nat → List Nat → Bool
  | 0, b => P b
  | d + 1, b => allC (allP n P d) b n 0

theorem nth_getD : ∀ (l : List Nat) (i : Nat), nth l i = l.getD i 0
  | [], _ => by simp [nth]
  | a :: _, 0 => by simp [nth]
  | a :: r, i + 1 => by rw [nth, nth_getD r i, List.getD_cons_succ]
theorem hasN_iff : ∀ (l : List Nat) (x : Nat), hasN l x = true ↔ x ∈ l
  | [], x => by simp [hasN]
  | a :: r, x => by
    rw [hasN]
    by_cases h : a = x
    · subst h; simp
    · have : Nat.beq a x = false := by rw [Bool.eq_false_iff]; intro c; exact h (Nat.eq_of_beq_eq_true c)
      have h' : ¬ x = a := fun c => h c.symm
      simp [this, hasN_iff r x, h']
theorem allC_iff (f : List Nat → Bool) (b : List Nat) (k : Nat) : ∀ x, allC f b k x = true ↔ ∀ y, x ≤ y → y < x + k → y ∉ b → f (b ++ [y]) = true := by
  induction k with
  | zero => intro x; simp [allC]; intros; omega
  | succ k ih =>
    intro x
    have hx := hasN_iff b x
    rw [allC]
    cases h : hasN b x
    · have hb : x ∉ b := fun c => by rw [hx.2 c] at h; cases h
      cases hf : f (b ++ [x])
      · simp only [cond_false, Bool.false_eq_true, false_iff]
        intro c
        have := c x (Nat.le_refl _) (by omega) hb
        rw [hf] at this; cases this
      · simp only [cond_false, cond_true, ih]
        constructor
        · intro c y h1 h2 h3
          by_cases e : y = x
          · subst e; exact hf
          · exact c y (by omega) (by omega) h3
        · intro c y h1 h2 h3; exact c y (by omega) (by omega) h3
    · have hb : x ∈ b := hx.1 h
      simp only [cond_true, ih]
      constructor
      · intro c y h1 h2 h3
        by_cases e : y = x
        · subst e; exact absurd hb h3
        · exact c y (by omega) (by omega) h3
      · intro c y h1 h2 h3; exact c y (by omega) (by omega) h3
/-- A tide. -/
def Tide (n : Nat) (t : List Nat) : Prop := t.length = n ∧ t.Nodup ∧ ∀ x ∈ t, x < n
theorem allP_ok (n : Nat) (P : List Nat → Bool) (d : Nat) : ∀ (b : List Nat), allP n P d b = true → ∀ r, r.length = d → (b ++ r).Nodup → (∀ x ∈ b ++ r, x < n) → P (b ++ r) = true := by
  induction d with
  | zero => intro b h r hr _ _; rw [List.length_eq_zero_iff.1 hr, List.append_nil]; exact h
  | succ d ih =>
    intro b h r hr hn hx
    cases r with
    | nil => simp at hr
    | cons y r =>
      have h1 := (allC_iff _ _ _ _).1 h y (by omega) (by have := hx y (by simp); omega) (by
        intro c
        have := List.nodup_append.1 hn
        exact this.2.2 y c y (by simp) rfl)
      have := ih (b ++ [y]) h1 r (by simpa using hr) (by simpa using hn) (by simpa using hx)
      simpa using this
theorem tide_all {n : Nat} {P : List Nat → Bool} (h : allP n P n [] = true) {t : List Nat} (ht : Tide n t) : P t = true := by
  have := allP_ok n P n [] h t ht.1 (by simpa using ht.2.1) (by simpa using ht.2.2)
  simpa using this

/-! ### Rings -/
def walkF (t : List Nat) : Nat → Nat → Nat → List Nat → Option (List Nat × Nat)
  | 0, _, _, _ => none
  | f + 1, met, p, l => cond (Nat.beq (met / 2 ^ p % 2) 0) (cond (Nat.blt p t.length) (walkF t f (met ||| 2 ^ p) (nth t p) (l ++ [p])) none) (some (l, met))
def addRow (out : List (List Nat)) : List Nat → List (List Nat)
  | [] => out
  | l => out ++ [l]
def ringsG (t : List Nat) : Nat → Nat → Nat → List (List Nat) → Option (List (List Nat))
  | 0, _, _, out => some out
  | n + 1, k, met, out => match walkF t 9 met k [] with
    | some (l, met') => ringsG t n (k + 1) met' (addRow out l)
    | none => none
def ringsP (t : List Nat) : Option (List (List Nat)) := ringsG t t.length 0 0 []
def rgF (t : List Nat) (p : Nat) : Nat → Nat → List Nat → Option (List Nat)
  | 0, _, _ => none
  | f + 1, q, out => cond (Nat.beq q p) (some out) (cond (Nat.blt q t.length) (rgF t p f (nth t q) (out ++ [q])) none)
def ringR (t : List Nat) (p : Nat) : Option (List Nat) := rgF t p 9 (nth t p) [p]
def minL : Nat → List Nat → Nat
  | x, [] => x
  | x, y :: r => minL (cond (Nat.blt y x) y x) r
def ringsH (t : List Nat) : Nat → Nat → List (List Nat) → Option (List (List Nat))
  | 0, _, out => some out
  | n + 1, p, out => match ringR t p with
    | some l => ringsH t n (p + 1) (cond (Nat.beq (minL p l) p) (out ++ [l]) out)
    | none => none
def ringsR (t : List Nat) : Option (List (List Nat)) := ringsH t t.length 0 []
def eqN : List Nat → List Nat → Bool
  | [], [] => true
  | a :: r, b :: s => cond (Nat.beq a b) (eqN r s) false
  | _, _ => false
def eqNN : List (List Nat) → List (List Nat) → Bool
  | [], [] => true
  | a :: r, b :: s => cond (eqN a b) (eqNN r s) false
  | _, _ => false
theorem eqN_ok : ∀ a b : List Nat, eqN a b = true → a = b
  | [], [], _ => rfl
  | [], _ :: _, h => by cases h
  | _ :: _, [], h => by cases h
  | a :: r, b :: s, h => by
    rw [eqN] at h
    cases hb : Nat.beq a b
    · rw [hb] at h; cases h
    · rw [hb] at h
      rw [Nat.eq_of_beq_eq_true hb, eqN_ok r s h]
theorem eqNN_ok : ∀ a b : List (List Nat), eqNN a b = true → a = b
  | [], [], _ => rfl
  | [], _ :: _, h => by cases h
  | _ :: _, [], h => by cases h
  | a :: r, b :: s, h => by
    rw [eqNN] at h
    cases hb : eqN a b
    · rw [hb] at h; cases h
    · rw [hb] at h
      rw [eqN_ok a b hb, eqNN_ok r s h]
def both : Option (List (List Nat)) → Option (List (List Nat)) → Bool
  | some a, some b => eqNN a b
  | _, _ => false
end Go.Am.Wash


/-
  What functions of chapter 13 compute, 1: checks; lists that are the same; one tide and then another one.
-/
set_option linter.unusedVariables false
set_option linter.unusedSimpArgs false
set_option maxRecDepth 10000
namespace Go.Am.Wash
open Go.Am.G

abbrev ci (l : List Nat) : List Int := l.map fun x : Nat => (x : Int)
abbrev RLn (l : List Nat) : LV := RL (ci l)
theorem ci_len (l : List Nat) : (ci l).length = l.length := by simp
theorem ci_map (l : List Nat) : (ci l).map (LV.int .i64) = l.map fun y : Nat => LV.int .i64 (y : Int) := by simp
theorem ci_mem (l : List Nat) (x : Nat) : (x : Int) ∈ ci l ↔ x ∈ l := by
  simp only [List.mem_map]
  constructor
  · rintro ⟨y, hy, e⟩
    have : y = x := by omega
    exact this ▸ hy
  · intro h; exact ⟨x, h, rfl⟩
def inB (lo hi x : Int) : Bool := decide (lo ≤ x ∧ x ≤ hi)
theorem within_c (n lo hi : Int) (m : LMem) : clF LP n_wash_within [.int .i64 n, .int .i64 lo, .int .i64 hi] m = some (.P, .bool (inB lo hi n), m) := by
  refine call_P lp_wash_within rfl rfl (m1 := []) ?_ rfl m
  by_cases h : lo ≤ n
  · simp only [wash_within, wash_within.B, beqT, beqF, exF_seq, exF_region, exF_block, exF_cond, exF_ret, exF_exit, exF_skip, runL, wantL, stepL, evL, LEnv.at, putL, loadFine, loadL, cellsAt, Trk.putNew, Trk.up, Trk.touch, Trk.gives, Trk.calm, Trk.hit, opdsOf, Trk.fresh, LEnv.keep, LEnv.ofFrom, List.map_cons, List.map_nil, nbeq, nble, nblt, ofAV, ofAVs, lenL, bin_add, bin_sub, bin_mul, bin_eql, bin_neq, bin_lss, bin_leq, bin_gtr, bin_geq, natL_nat, natL_zero, natL_one, natL_two, Nat.zero_mul, List.any_cons, List.any_nil, Bool.or_false, Bool.false_or, Bool.true_or, Bool.or_true, Bool.and_true, Bool.true_and, Bool.and_false, Bool.false_and, Bool.not_true, Bool.not_false, Nat.reduceBEq, Nat.reduceEqDiff, decide_true, decide_false, cond_true, cond_false, List.filter_nil, List.filter_cons, Nat.reduceAdd, Nat.reduceLeDiff, reduceCtorEq, List.length_nil, List.length_cons, Nat.mul_one, if_true, if_false, Bool.false_eq_true, eq_self, and_true, true_and, retL, resultsL, resAllL, resOfL, List.append_nil, List.nil_append, List.cons_append, true_or, or_true, false_or, or_false, false_and, and_false, not_true_eq_false, not_false_eq_true, ne_eq, unL, trim_nil, views_pures, LV.pures, LV.pure, freeze, Nat.reduceDiv, Int.reduceEq, Int.reduceLT, Int.reduceLE, Int.natCast_zero, LV.cells, allocL, List.getElem?_cons_zero, List.getElem?_cons_succ, storeL, spliceL, List.take_zero, List.take_succ_cons, List.drop_zero, List.drop_succ_cons, List.drop_nil, List.take_nil, Nat.le_refl, Nat.reduceMul, List.set_cons_zero, List.set_cons_succ, LV.scalar, List.all_cons, List.all_nil, Nat.lt_add_one, Nat.zero_lt_one, Nat.reduceLT, Nat.lt_irrefl, fillL, List.length_append, foldIntL, kind_beq, pures_int, solids_int, plains_int, unders_int, scalars_int, h, inB]
  · simp only [wash_within, wash_within.B, beqT, beqF, exF_seq, exF_region, exF_block, exF_cond, exF_ret, exF_exit, exF_skip, runL, wantL, stepL, evL, LEnv.at, putL, loadFine, loadL, cellsAt, Trk.putNew, Trk.up, Trk.touch, Trk.gives, Trk.calm, Trk.hit, opdsOf, Trk.fresh, LEnv.keep, LEnv.ofFrom, List.map_cons, List.map_nil, nbeq, nble, nblt, ofAV, ofAVs, lenL, bin_add, bin_sub, bin_mul, bin_eql, bin_neq, bin_lss, bin_leq, bin_gtr, bin_geq, natL_nat, natL_zero, natL_one, natL_two, Nat.zero_mul, List.any_cons, List.any_nil, Bool.or_false, Bool.false_or, Bool.true_or, Bool.or_true, Bool.and_true, Bool.true_and, Bool.and_false, Bool.false_and, Bool.not_true, Bool.not_false, Nat.reduceBEq, Nat.reduceEqDiff, decide_true, decide_false, cond_true, cond_false, List.filter_nil, List.filter_cons, Nat.reduceAdd, Nat.reduceLeDiff, reduceCtorEq, List.length_nil, List.length_cons, Nat.mul_one, if_true, if_false, Bool.false_eq_true, eq_self, and_true, true_and, retL, resultsL, resAllL, resOfL, List.append_nil, List.nil_append, List.cons_append, true_or, or_true, false_or, or_false, false_and, and_false, not_true_eq_false, not_false_eq_true, ne_eq, unL, trim_nil, views_pures, LV.pures, LV.pure, freeze, Nat.reduceDiv, Int.reduceEq, Int.reduceLT, Int.reduceLE, Int.natCast_zero, LV.cells, allocL, List.getElem?_cons_zero, List.getElem?_cons_succ, storeL, spliceL, List.take_zero, List.take_succ_cons, List.drop_zero, List.drop_succ_cons, List.drop_nil, List.take_nil, Nat.le_refl, Nat.reduceMul, List.set_cons_zero, List.set_cons_succ, LV.scalar, List.all_cons, List.all_nil, Nat.lt_add_one, Nat.zero_lt_one, Nat.reduceLT, Nat.lt_irrefl, fillL, List.length_append, foldIntL, kind_beq, pures_int, solids_int, plains_int, unders_int, scalars_int, h, inB]

/-! ### Checks -/
def chkG (N : Int) : List Int → List Int → Int
  | _, [] => 0
  | pre, x :: r => if ¬ (0 ≤ x ∧ x < N) then 2 else if x ∈ pre then 6 else chkG N (pre ++ [x]) r
def chkT (t : List Int) : Int := if ¬ (1 ≤ t.length ∧ t.length ≤ 7) then 1 else chkG (t.length : Int) [] t
def mk : List Int → Nat
  | [] => 0
  | x :: r => mk r ||| 2 ^ x.toNat
theorem mk_bit (N : Int) : ∀ (l : List Int), (∀ x ∈ l, 0 ≤ x ∧ x < N) → ∀ p : Nat, (mk l).testBit p = decide ((p : Int) ∈ l)
  | [], _, p => by simp [mk]
  | x :: r, h, p => by
    have hx := h x (by simp)
    rw [mk, Nat.testBit_or, Nat.testBit_two_pow, mk_bit N r fun y hy => h y (by simp [hy]), Bool.eq_iff_iff]
    simp only [Bool.or_eq_true, decide_eq_true_eq, List.mem_cons]
    constructor
    · rintro (h | h)
      · exact .inr h
      · left; omega
    · rintro (h | h)
      · right; omega
      · exact .inl h
theorem mk_append (l : List Int) (x : Int) : mk (l ++ [x]) = mk l ||| 2 ^ x.toNat := by
  induction l with
  | nil => simp [mk]
  | cons a r ih => rw [List.cons_append, mk, mk, ih, Nat.or_assoc, Nat.or_assoc, Nat.or_comm (2 ^ x.toNat)]
theorem mk_lt : ∀ (l : List Int), (∀ x ∈ l, 0 ≤ x ∧ x < 7) → mk l < 128
  | [], _ => by simp [mk]
  | x :: r, h => by
    have hx := h x (by simp)
    refine Nat.or_lt_two_pow (n := 7) (mk_lt r fun y hy => h y (by simp [hy])) ?_
    exact Nat.pow_lt_pow_right (by omega) (by omega)
theorem check_loop (nl ex : Bool) (sz : Nat) (t : List Int) (N : Nat) (hN : N ≤ 7) (hN0 : 0 < N) (hl : t.length < 1000000) (n : Nat) : ∀ k, k + n = t.length → (∀ x ∈ t.take k, 0 ≤ x ∧ x < (N : Int)) →
    exF LP wash_Check.L0 [(3, .int .i64 (N : Int)), (4, .int .i64 (mk (t.take k) : Int)), (12, IL nl ex sz t), (13, .int .i64 (t.length : Int)), (14, .int .i64 (k : Int))] [] =
      if chkG (N : Int) (t.take k) (t.drop k) = 0 then some (.exit 0, [], []) else some (.ret, [(2, .int .i64 (chkG (N : Int) (t.take k) (t.drop k)))], []) := by
  have hw : IntKind.i64.wrap ((N : Int) - 1) = (N : Int) - 1 := wrap_in (by omega)
  induction n with
  | zero =>
    intro k hk _
    rw [wash_Check.L0_eq]
    simp only [wash_Check.B0, beqT, beqF, exF_seq, exF_region, exF_block, exF_cond, exF_ret, exF_exit, exF_skip, runL, wantL, stepL, evL, LEnv.at, putL, loadFine, loadL, cellsAt, Trk.putNew, Trk.up, Trk.touch, Trk.gives, Trk.calm, Trk.hit, opdsOf, Trk.fresh, LEnv.keep, LEnv.ofFrom, List.map_cons, List.map_nil, nbeq, nble, nblt, ofAV, ofAVs, lenL, bin_add, bin_sub, bin_mul, bin_eql, bin_neq, bin_lss, bin_leq, bin_gtr, bin_geq, natL_nat, natL_zero, natL_one, natL_two, Nat.zero_mul, List.any_cons, List.any_nil, Bool.or_false, Bool.false_or, Bool.true_or, Bool.or_true, Bool.and_true, Bool.true_and, Bool.and_false, Bool.false_and, Bool.not_true, Bool.not_false, Nat.reduceBEq, Nat.reduceEqDiff, decide_true, decide_false, cond_true, cond_false, List.filter_nil, List.filter_cons, Nat.reduceAdd, Nat.reduceLeDiff, reduceCtorEq, List.length_nil, List.length_cons, Nat.mul_one, if_true, if_false, Bool.false_eq_true, eq_self, and_true, true_and, retL, resultsL, resAllL, resOfL, List.append_nil, List.nil_append, List.cons_append, true_or, or_true, false_or, or_false, false_and, and_false, not_true_eq_false, not_false_eq_true, ne_eq, unL, trim_nil, views_pures, LV.pures, LV.pure, freeze, Nat.reduceDiv, Int.reduceEq, Int.reduceLT, Int.reduceLE, Int.natCast_zero, LV.cells, allocL, List.getElem?_cons_zero, List.getElem?_cons_succ, storeL, spliceL, List.take_zero, List.take_succ_cons, List.drop_zero, List.drop_succ_cons, List.drop_nil, List.take_nil, Nat.le_refl, Nat.reduceMul, List.set_cons_zero, List.set_cons_succ, LV.scalar, List.all_cons, List.all_nil, Nat.lt_add_one, Nat.zero_lt_one, Nat.reduceLT, Nat.lt_irrefl, fillL, List.length_append, foldIntL, kind_beq, pures_int, solids_int, plains_int, unders_int, scalars_int, show ¬ ((k : Int) < (t.length : Int)) by omega]
    simp [List.drop_eq_nil_of_le (show t.length ≤ k by omega), chkG]
  | succ n ih =>
    intro k hk hpre
    have h2 : k < t.length := by omega
    have htk : t.take (k + 1) = t.take k ++ [t[k]] := by rw [List.take_add_one, List.getElem?_eq_getElem h2]; rfl
    have hpre7 : ∀ x ∈ t.take k, 0 ≤ x ∧ x < 7 := fun x hx => by have := hpre x hx; omega
    have hmlt := mk_lt _ hpre7
    have e0 : chkG (N : Int) (t.take k) (t[k] :: t.drop (k + 1)) = if ¬ (0 ≤ t[k] ∧ t[k] < (N : Int)) then 2 else if t[k] ∈ t.take k then 6 else chkG (N : Int) (t.take k ++ [t[k]]) (t.drop (k + 1)) := by rw [chkG]
    rw [wash_Check.L0_eq, List.drop_eq_getElem_cons h2, e0]
    clear e0
    by_cases h3 : 0 ≤ t[k] ∧ t[k] < (N : Int)
    · have hi : inB 0 ((N : Int) - 1) t[k] = true := by simp [inB]; omega
      simp only [if_neg (show ¬ ¬ (0 ≤ t[k] ∧ t[k] < (N : Int)) from fun c => c h3)]
      obtain ⟨p, hp⟩ := Int.eq_ofNat_of_zero_le h3.1
      have hb := mk_bit N (t.take k) hpre p
      rw [Nat.testBit_eq_decide_div_mod_eq, decide_eq_decide, ← hp] at hb
      have hd : mk (t.take k) / 2 ^ p < 4294967296 := Nat.lt_of_le_of_lt (Nat.div_le_self _ _) (by omega)
      have hp7 : p < 7 := by omega
      by_cases h4 : t[k] ∈ t.take k
      · have hb1 : ((mk (t.take k) / 2 ^ p % 2 : Nat) : Int) = 1 := by have := hb.2 h4; omega
        simp only [if_pos h4]
        rw [hp] at hi
        simp only [wash_Check.B0, beqT, beqF, exF_seq, exF_region, exF_block, exF_cond, exF_ret, exF_exit, exF_skip, runL, wantL, stepL, evL, LEnv.at, putL, loadFine, loadL, cellsAt, Trk.putNew, Trk.up, Trk.touch, Trk.gives, Trk.calm, Trk.hit, opdsOf, Trk.fresh, LEnv.keep, LEnv.ofFrom, List.map_cons, List.map_nil, nbeq, nble, nblt, ofAV, ofAVs, lenL, bin_add, bin_sub, bin_mul, bin_eql, bin_neq, bin_lss, bin_leq, bin_gtr, bin_geq, natL_nat, natL_zero, natL_one, natL_two, Nat.zero_mul, List.any_cons, List.any_nil, Bool.or_false, Bool.false_or, Bool.true_or, Bool.or_true, Bool.and_true, Bool.true_and, Bool.and_false, Bool.false_and, Bool.not_true, Bool.not_false, Nat.reduceBEq, Nat.reduceEqDiff, decide_true, decide_false, cond_true, cond_false, List.filter_nil, List.filter_cons, Nat.reduceAdd, Nat.reduceLeDiff, reduceCtorEq, List.length_nil, List.length_cons, Nat.mul_one, if_true, if_false, Bool.false_eq_true, eq_self, and_true, true_and, retL, resultsL, resAllL, resOfL, List.append_nil, List.nil_append, List.cons_append, true_or, or_true, false_or, or_false, false_and, and_false, not_true_eq_false, not_false_eq_true, ne_eq, unL, trim_nil, views_pures, LV.pures, LV.pure, freeze, Nat.reduceDiv, Int.reduceEq, Int.reduceLT, Int.reduceLE, Int.natCast_zero, LV.cells, allocL, List.getElem?_cons_zero, List.getElem?_cons_succ, storeL, spliceL, List.take_zero, List.take_succ_cons, List.drop_zero, List.drop_succ_cons, List.drop_nil, List.take_nil, Nat.le_refl, Nat.reduceMul, List.set_cons_zero, List.set_cons_succ, LV.scalar, List.all_cons, List.all_nil, Nat.lt_add_one, Nat.zero_lt_one, Nat.reduceLT, Nat.lt_irrefl, fillL, List.length_append, foldIntL, kind_beq, pures_int, solids_int, plains_int, unders_int, scalars_int, show ((k : Int) < (t.length : Int)) by omega, h2, int_at _ _ _ h2, hp, hw, within_c, hi, sshr (a := mk (t.take k)) (show p < 64 by omega), sand1 hd, hb1]
      · have hb1 : ¬ ((mk (t.take k) / 2 ^ p % 2 : Nat) : Int) = 1 := by
          intro c; exact h4 (hb.1 (by omega))
        simp only [if_neg h4]
        have ih := ih (k + 1) (by omega) (by
          rw [htk]
          intro x hx
          rcases List.mem_append.1 hx with hx | hx
          · exact hpre x hx
          · simp at hx; subst hx; exact h3)
        have hpp : 2 ^ p < 4294967296 := Nat.lt_of_lt_of_le (Nat.pow_lt_pow_right (by omega) (show p < 32 by omega)) (by omega)
        have o := sor (show mk (t.take k) < 4294967296 by omega) hpp
        have hmk : mk (t.take (k + 1)) = mk (t.take k) ||| 2 ^ p := by rw [htk, mk_append, hp, Int.toNat_natCast]
        rw [hmk, htk] at ih
        rw [hp] at hi
        simp only [wash_Check.B0, beqT, beqF, exF_seq, exF_region, exF_block, exF_cond, exF_ret, exF_exit, exF_skip, runL, wantL, stepL, evL, LEnv.at, putL, loadFine, loadL, cellsAt, Trk.putNew, Trk.up, Trk.touch, Trk.gives, Trk.calm, Trk.hit, opdsOf, Trk.fresh, LEnv.keep, LEnv.ofFrom, List.map_cons, List.map_nil, nbeq, nble, nblt, ofAV, ofAVs, lenL, bin_add, bin_sub, bin_mul, bin_eql, bin_neq, bin_lss, bin_leq, bin_gtr, bin_geq, natL_nat, natL_zero, natL_one, natL_two, Nat.zero_mul, List.any_cons, List.any_nil, Bool.or_false, Bool.false_or, Bool.true_or, Bool.or_true, Bool.and_true, Bool.true_and, Bool.and_false, Bool.false_and, Bool.not_true, Bool.not_false, Nat.reduceBEq, Nat.reduceEqDiff, decide_true, decide_false, cond_true, cond_false, List.filter_nil, List.filter_cons, Nat.reduceAdd, Nat.reduceLeDiff, reduceCtorEq, List.length_nil, List.length_cons, Nat.mul_one, if_true, if_false, Bool.false_eq_true, eq_self, and_true, true_and, retL, resultsL, resAllL, resOfL, List.append_nil, List.nil_append, List.cons_append, true_or, or_true, false_or, or_false, false_and, and_false, not_true_eq_false, not_false_eq_true, ne_eq, unL, trim_nil, views_pures, LV.pures, LV.pure, freeze, Nat.reduceDiv, Int.reduceEq, Int.reduceLT, Int.reduceLE, Int.natCast_zero, LV.cells, allocL, List.getElem?_cons_zero, List.getElem?_cons_succ, storeL, spliceL, List.take_zero, List.take_succ_cons, List.drop_zero, List.drop_succ_cons, List.drop_nil, List.take_nil, Nat.le_refl, Nat.reduceMul, List.set_cons_zero, List.set_cons_succ, LV.scalar, List.all_cons, List.all_nil, Nat.lt_add_one, Nat.zero_lt_one, Nat.reduceLT, Nat.lt_irrefl, fillL, List.length_append, foldIntL, kind_beq, pures_int, solids_int, plains_int, unders_int, scalars_int, show ((k : Int) < (t.length : Int)) by omega, h2, int_at _ _ _ h2, hp, hw, within_c, hi, sshr (a := mk (t.take k)) (show p < 64 by omega), sand1 hd, hb1, sshl (show p < 32 by omega), o, wrap_succ (show k + 1 < 9223372036854775808 by omega)]
        rw [hp] at ih
        exact ih
    · have hi : inB 0 ((N : Int) - 1) t[k] = false := by simp only [inB, decide_eq_false_iff_not]; omega
      simp only [if_pos (show ¬ (0 ≤ t[k] ∧ t[k] < (N : Int)) from h3)]
      simp only [wash_Check.B0, beqT, beqF, exF_seq, exF_region, exF_block, exF_cond, exF_ret, exF_exit, exF_skip, runL, wantL, stepL, evL, LEnv.at, putL, loadFine, loadL, cellsAt, Trk.putNew, Trk.up, Trk.touch, Trk.gives, Trk.calm, Trk.hit, opdsOf, Trk.fresh, LEnv.keep, LEnv.ofFrom, List.map_cons, List.map_nil, nbeq, nble, nblt, ofAV, ofAVs, lenL, bin_add, bin_sub, bin_mul, bin_eql, bin_neq, bin_lss, bin_leq, bin_gtr, bin_geq, natL_nat, natL_zero, natL_one, natL_two, Nat.zero_mul, List.any_cons, List.any_nil, Bool.or_false, Bool.false_or, Bool.true_or, Bool.or_true, Bool.and_true, Bool.true_and, Bool.and_false, Bool.false_and, Bool.not_true, Bool.not_false, Nat.reduceBEq, Nat.reduceEqDiff, decide_true, decide_false, cond_true, cond_false, List.filter_nil, List.filter_cons, Nat.reduceAdd, Nat.reduceLeDiff, reduceCtorEq, List.length_nil, List.length_cons, Nat.mul_one, if_true, if_false, Bool.false_eq_true, eq_self, and_true, true_and, retL, resultsL, resAllL, resOfL, List.append_nil, List.nil_append, List.cons_append, true_or, or_true, false_or, or_false, false_and, and_false, not_true_eq_false, not_false_eq_true, ne_eq, unL, trim_nil, views_pures, LV.pures, LV.pure, freeze, Nat.reduceDiv, Int.reduceEq, Int.reduceLT, Int.reduceLE, Int.natCast_zero, LV.cells, allocL, List.getElem?_cons_zero, List.getElem?_cons_succ, storeL, spliceL, List.take_zero, List.take_succ_cons, List.drop_zero, List.drop_succ_cons, List.drop_nil, List.take_nil, Nat.le_refl, Nat.reduceMul, List.set_cons_zero, List.set_cons_succ, LV.scalar, List.all_cons, List.all_nil, Nat.lt_add_one, Nat.zero_lt_one, Nat.reduceLT, Nat.lt_irrefl, fillL, List.length_append, foldIntL, kind_beq, pures_int, solids_int, plains_int, unders_int, scalars_int, show ((k : Int) < (t.length : Int)) by omega, h2, int_at _ _ _ h2, hw, within_c, hi]
theorem check_c (nl ex : Bool) (sz : Nat) (t : List Int) (hl : t.length < 1000000) (m : LMem) : clF LP n_wash_Check [IL nl ex sz t] m = some (.P, .int .i64 (chkT t), m) := by
  refine call_P lp_wash_Check rfl (by simp [LV.pures, LV.pure]) (m1 := []) ?_ rfl m
  unfold chkT
  by_cases h : 1 ≤ t.length ∧ t.length ≤ 7
  · have hi : inB 1 7 (t.length : Int) = true := by simp [inB]; omega
    have h2 := check_loop nl ex sz t t.length h.2 (by omega) hl t.length 0 (by omega) (by simp)
    simp only [List.take_zero, List.drop_zero, mk, Int.natCast_zero] at h2
    rw [if_neg (fun c => c h)]
    by_cases hc : chkG (t.length : Int) [] t = 0
    · rw [if_pos hc] at h2
      simp only [wash_Check, wash_Check.B, beqT, beqF, exF_seq, exF_region, exF_block, exF_cond, exF_ret, exF_exit, exF_skip, runL, wantL, stepL, evL, LEnv.at, putL, loadFine, loadL, cellsAt, Trk.putNew, Trk.up, Trk.touch, Trk.gives, Trk.calm, Trk.hit, opdsOf, Trk.fresh, LEnv.keep, LEnv.ofFrom, List.map_cons, List.map_nil, nbeq, nble, nblt, ofAV, ofAVs, lenL, bin_add, bin_sub, bin_mul, bin_eql, bin_neq, bin_lss, bin_leq, bin_gtr, bin_geq, natL_nat, natL_zero, natL_one, natL_two, Nat.zero_mul, List.any_cons, List.any_nil, Bool.or_false, Bool.false_or, Bool.true_or, Bool.or_true, Bool.and_true, Bool.true_and, Bool.and_false, Bool.false_and, Bool.not_true, Bool.not_false, Nat.reduceBEq, Nat.reduceEqDiff, decide_true, decide_false, cond_true, cond_false, List.filter_nil, List.filter_cons, Nat.reduceAdd, Nat.reduceLeDiff, reduceCtorEq, List.length_nil, List.length_cons, Nat.mul_one, if_true, if_false, Bool.false_eq_true, eq_self, and_true, true_and, retL, resultsL, resAllL, resOfL, List.append_nil, List.nil_append, List.cons_append, true_or, or_true, false_or, or_false, false_and, and_false, not_true_eq_false, not_false_eq_true, ne_eq, unL, trim_nil, views_pures, LV.pures, LV.pure, freeze, Nat.reduceDiv, Int.reduceEq, Int.reduceLT, Int.reduceLE, Int.natCast_zero, LV.cells, allocL, List.getElem?_cons_zero, List.getElem?_cons_succ, storeL, spliceL, List.take_zero, List.take_succ_cons, List.drop_zero, List.drop_succ_cons, List.drop_nil, List.take_nil, Nat.le_refl, Nat.reduceMul, List.set_cons_zero, List.set_cons_succ, LV.scalar, List.all_cons, List.all_nil, Nat.lt_add_one, Nat.zero_lt_one, Nat.reduceLT, Nat.lt_irrefl, fillL, List.length_append, foldIntL, kind_beq, pures_int, solids_int, plains_int, unders_int, scalars_int, within_c, hi, h2, hc]
    · rw [if_neg hc] at h2
      simp only [wash_Check, wash_Check.B, beqT, beqF, exF_seq, exF_region, exF_block, exF_cond, exF_ret, exF_exit, exF_skip, runL, wantL, stepL, evL, LEnv.at, putL, loadFine, loadL, cellsAt, Trk.putNew, Trk.up, Trk.touch, Trk.gives, Trk.calm, Trk.hit, opdsOf, Trk.fresh, LEnv.keep, LEnv.ofFrom, List.map_cons, List.map_nil, nbeq, nble, nblt, ofAV, ofAVs, lenL, bin_add, bin_sub, bin_mul, bin_eql, bin_neq, bin_lss, bin_leq, bin_gtr, bin_geq, natL_nat, natL_zero, natL_one, natL_two, Nat.zero_mul, List.any_cons, List.any_nil, Bool.or_false, Bool.false_or, Bool.true_or, Bool.or_true, Bool.and_true, Bool.true_and, Bool.and_false, Bool.false_and, Bool.not_true, Bool.not_false, Nat.reduceBEq, Nat.reduceEqDiff, decide_true, decide_false, cond_true, cond_false, List.filter_nil, List.filter_cons, Nat.reduceAdd, Nat.reduceLeDiff, reduceCtorEq, List.length_nil, List.length_cons, Nat.mul_one, if_true, if_false, Bool.false_eq_true, eq_self, and_true, true_and, retL, resultsL, resAllL, resOfL, List.append_nil, List.nil_append, List.cons_append, true_or, or_true, false_or, or_false, false_and, and_false, not_true_eq_false, not_false_eq_true, ne_eq, unL, trim_nil, views_pures, LV.pures, LV.pure, freeze, Nat.reduceDiv, Int.reduceEq, Int.reduceLT, Int.reduceLE, Int.natCast_zero, LV.cells, allocL, List.getElem?_cons_zero, List.getElem?_cons_succ, storeL, spliceL, List.take_zero, List.take_succ_cons, List.drop_zero, List.drop_succ_cons, List.drop_nil, List.take_nil, Nat.le_refl, Nat.reduceMul, List.set_cons_zero, List.set_cons_succ, LV.scalar, List.all_cons, List.all_nil, Nat.lt_add_one, Nat.zero_lt_one, Nat.reduceLT, Nat.lt_irrefl, fillL, List.length_append, foldIntL, kind_beq, pures_int, solids_int, plains_int, unders_int, scalars_int, within_c, hi, h2]
  · have hi : inB 1 7 (t.length : Int) = false := by simp only [inB, decide_eq_false_iff_not]; omega
    rw [if_pos h]
    simp only [wash_Check, wash_Check.B, beqT, beqF, exF_seq, exF_region, exF_block, exF_cond, exF_ret, exF_exit, exF_skip, runL, wantL, stepL, evL, LEnv.at, putL, loadFine, loadL, cellsAt, Trk.putNew, Trk.up, Trk.touch, Trk.gives, Trk.calm, Trk.hit, opdsOf, Trk.fresh, LEnv.keep, LEnv.ofFrom, List.map_cons, List.map_nil, nbeq, nble, nblt, ofAV, ofAVs, lenL, bin_add, bin_sub, bin_mul, bin_eql, bin_neq, bin_lss, bin_leq, bin_gtr, bin_geq, natL_nat, natL_zero, natL_one, natL_two, Nat.zero_mul, List.any_cons, List.any_nil, Bool.or_false, Bool.false_or, Bool.true_or, Bool.or_true, Bool.and_true, Bool.true_and, Bool.and_false, Bool.false_and, Bool.not_true, Bool.not_false, Nat.reduceBEq, Nat.reduceEqDiff, decide_true, decide_false, cond_true, cond_false, List.filter_nil, List.filter_cons, Nat.reduceAdd, Nat.reduceLeDiff, reduceCtorEq, List.length_nil, List.length_cons, Nat.mul_one, if_true, if_false, Bool.false_eq_true, eq_self, and_true, true_and, retL, resultsL, resAllL, resOfL, List.append_nil, List.nil_append, List.cons_append, true_or, or_true, false_or, or_false, false_and, and_false, not_true_eq_false, not_false_eq_true, ne_eq, unL, trim_nil, views_pures, LV.pures, LV.pure, freeze, Nat.reduceDiv, Int.reduceEq, Int.reduceLT, Int.reduceLE, Int.natCast_zero, LV.cells, allocL, List.getElem?_cons_zero, List.getElem?_cons_succ, storeL, spliceL, List.take_zero, List.take_succ_cons, List.drop_zero, List.drop_succ_cons, List.drop_nil, List.take_nil, Nat.le_refl, Nat.reduceMul, List.set_cons_zero, List.set_cons_succ, LV.scalar, List.all_cons, List.all_nil, Nat.lt_add_one, Nat.zero_lt_one, Nat.reduceLT, Nat.lt_irrefl, fillL, List.length_append, foldIntL, kind_beq, pures_int, solids_int, plains_int, unders_int, scalars_int, within_c, hi]
theorem chkG_ok (N : Nat) : ∀ (t pre : List Int), chkG (N : Int) pre t = 0 → ∃ q : List Nat, t = ci q ∧ q.Nodup ∧ (∀ x ∈ q, x < N) ∧ ∀ x ∈ q, ¬ (x : Int) ∈ pre
  | [], pre, _ => ⟨[], rfl, List.nodup_nil, by simp, by simp⟩
  | x :: r, pre, h => by
    rw [chkG] at h
    split at h
    · omega
    · rename_i h1
      have h1 : 0 ≤ x ∧ x < (N : Int) := Classical.byContradiction h1
      split at h
      · omega
      · rename_i h2
        obtain ⟨q, rfl, h3, h4, h5⟩ := chkG_ok N r (pre ++ [x]) h
        obtain ⟨y, rfl⟩ := Int.eq_ofNat_of_zero_le h1.1
        refine ⟨y :: q, rfl, List.nodup_cons.2 ⟨fun c => h5 y c (by simp), h3⟩, ?_, ?_⟩
        · intro z hz
          rcases List.mem_cons.1 hz with rfl | hz
          · omega
          · exact h4 z hz
        · intro z hz
          rcases List.mem_cons.1 hz with rfl | hz
          · exact h2
          · exact fun c => h5 z hz (by simp [c])
/-- What is accepted is a tide. -/
theorem tide_of {t : List Int} (h : chkT t = 0) : ∃ q : List Nat, t = ci q ∧ Tide q.length q ∧ 1 ≤ q.length ∧ q.length ≤ 7 := by
  unfold chkT at h
  split at h
  · omega
  · rename_i h1
    have h1 : 1 ≤ t.length ∧ t.length ≤ 7 := Classical.byContradiction h1
    obtain ⟨q, rfl, h2, h3, _⟩ := chkG_ok t.length t [] h
    rw [ci_len] at h1 h3
    exact ⟨q, rfl, ⟨rfl, h2, h3⟩, h1.1, h1.2⟩
end Go.Am.Wash


