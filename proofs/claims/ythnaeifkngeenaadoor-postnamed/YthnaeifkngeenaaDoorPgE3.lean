import Derived.Test.YthnaeifkngeenaaDoorPgE2
import Derived.Test.YthnaeifkngeenaaDoorPgC15
/-
  What functions of chapter 12 compute, by tables 3: plain facts: what is at hand, the first list, parities.
-/
set_option linter.unusedVariables false
set_option linter.unusedSimpArgs false
set_option maxRecDepth 10000
namespace Go.Am.Post
open Go.Am.G

/-! ### What is at hand of a shore by numbers -/
def HB (s : List Int) (h : List Nat) : Prop := h.length = s.length ∧ ∀ v, v < s.length → ∀ u, (h.getD v 0).testBit u = (decide (u < s.length) && nb s v u)
theorem nb_app {s : List Int} {b : Int} {v u : Nat} (hv : v < s.length) (hu : u < s.length) : nb (s ++ [b]) v u = nb s v u := by
  unfold nb
  rw [getD_app hv, getD_app hu]
theorem getD_last {α : Type} (s : List α) (b d : α) : (s ++ [b]).getD s.length d = b := by
  rw [getD_app2 (Nat.le_refl _), Nat.sub_self]; rfl
theorem hb_step {s : List Int} (K : OkS s) {b : Nat} (hb : b < s.length) {h : List Nat} (H : HB s h) : HB (s ++ [(b : Int)]) (hset (h ++ [2 ^ s.length ||| 2 ^ b]) b s.length) := by
  obtain ⟨hl, H⟩ := H
  refine ⟨by rw [hset_length]; simp [hl], fun v hv u => ?_⟩
  rw [List.length_append, List.length_singleton] at hv ⊢
  rw [getD_hset]
  have hlen : (h ++ [2 ^ s.length ||| 2 ^ b]).length = s.length + 1 := by simp [hl]
  have hlast : (s ++ [(b : Int)]).getD s.length 0 = (b : Int) := getD_last s _ 0
  have small : ∀ x, x < s.length → (s.getD x 0 ≠ (s.length : Int)) := fun x hx => by
    by_cases c : x = 0
    · subst c; rw [K.h0]; omega
    · have := K.hi x (by omega) hx; omega
  by_cases e : v = s.length
  · subst e
    rw [if_neg (by omega)]
    have : (h ++ [2 ^ s.length ||| 2 ^ b]).getD s.length 0 = 2 ^ s.length ||| 2 ^ b := by rw [← hl]; exact getD_last h _ 0
    rw [this, Nat.testBit_or, Nat.testBit_two_pow, Nat.testBit_two_pow]
    unfold nb
    rw [hlast]
    by_cases eu : u = s.length
    · subst eu; simp
    · by_cases hu : u < s.length
      · rw [getD_app hu]
        have := small u hu
        rw [Bool.eq_iff_iff]; simp only [Bool.and_eq_true, Bool.or_eq_true, decide_eq_true_eq, Bool.false_eq_true, and_true, true_and]; omega
      · rw [Bool.eq_iff_iff]; simp only [Bool.and_eq_true, Bool.or_eq_true, decide_eq_true_eq, Bool.false_eq_true, and_true, true_and]; omega
  · have hv' : v < s.length := by omega
    have hold : (h ++ [2 ^ s.length ||| 2 ^ b]).getD v 0 = h.getD v 0 := getD_app (by omega)
    have hold2 : (h ++ [2 ^ s.length ||| 2 ^ b]).getD b 0 = h.getD b 0 := getD_app (by omega)
    have key : ((if v = b ∧ b < (h ++ [2 ^ s.length ||| 2 ^ b]).length then (h ++ [2 ^ s.length ||| 2 ^ b]).getD b 0 ||| 2 ^ s.length else (h ++ [2 ^ s.length ||| 2 ^ b]).getD v 0).testBit u) = ((h.getD v 0).testBit u || (decide (v = b) && decide (u = s.length))) := by
      by_cases c : v = b
      · subst c
        rw [if_pos ⟨rfl, by omega⟩, hold2, Nat.testBit_or, Nat.testBit_two_pow]
        have e2 : (s.length = u) ↔ (u = s.length) := ⟨Eq.symm, Eq.symm⟩
        simp [e2]
      · rw [if_neg (by simp [c]), hold]; simp [c]
    rw [key, H v hv' u]
    by_cases eu : u = s.length
    · subst eu
      unfold nb
      rw [hlast, getD_app hv']
      have := small v hv'
      rw [Bool.eq_iff_iff]; simp only [Bool.and_eq_true, Bool.or_eq_true, decide_eq_true_eq, Bool.false_eq_true, and_true, true_and]; omega
    · by_cases hu : u < s.length
      · rw [nb_app hv' hu]
        have e3 : u < s.length + 1 := by omega
        simp [eu, hu, e3]
      · rw [Bool.eq_iff_iff]; simp only [Bool.and_eq_true, Bool.or_eq_true, decide_eq_true_eq, Bool.false_eq_true, and_true, true_and]; omega
theorem hb_loop (bs : List Nat) (d : Nat) : ∀ (i : Nat) (s : List Int) (h : List Nat), 1 ≤ i → s.length = i → i + d ≤ 10 → OkS s → HB s h → HB (shN bs d i s) (haN bs d i h) := by
  induction d with
  | zero => intro i s h _ _ _ _ H; exact H
  | succ d ih =>
    intro i s h h1 hl h10 K H
    rw [shN, haN]
    have hm : bs.getD i 0 % i < i := Nat.mod_lt _ h1
    generalize bs.getD i 0 % i = q at *
    subst hl
    have K2 : OkS (s ++ [(q : Int)]) := by
      have := shN_ok [] 0 s.length s (by omega) rfl (by omega) K
      refine ⟨by simp, by simp; omega, ?_, ?_⟩
      · rw [getD_app K.pos]; exact K.h0
      · intro j j0 hj
        by_cases c : j < s.length
        · rw [getD_app c]; exact K.hi j j0 c
        · have e : j = s.length := by simp at hj; omega
          subst e
          rw [getD_last]
          omega
    exact ih (s.length + 1) _ _ (by omega) (by simp) (by omega) K2 (hb_step K hm H)
theorem hand_eq (n : Nat) (h1 : 1 ≤ n) (h10 : n ≤ 10) (bs : List Nat) : handN n bs = handsV (shoreN n bs) := by
  obtain ⟨K, hl⟩ := shoreN_ok n h1 h10 bs
  have H0 : HB [-1] [1] := by
    refine ⟨rfl, fun v hv u => ?_⟩
    obtain rfl : v = 0 := by simp at hv; omega
    have e : ([1] : List Nat).getD 0 0 = 2 ^ 0 := rfl
    rw [e, Nat.testBit_two_pow]
    unfold nb
    rw [Bool.eq_iff_iff]
    simp
    omega
  have H := hb_loop bs (n - 1) 1 [-1] [1] (by omega) rfl (by omega) ⟨by simp, by simp, rfl, fun j h0 hj => by simp at hj; omega⟩ H0
  change HB (shoreN n bs) (handN n bs) at H
  generalize shoreN n bs = s at *
  obtain ⟨H1, H2⟩ := H
  apply List.ext_getElem (by rw [H1, handsV_length])
  intro i hi hi'
  refine Nat.eq_of_testBit_eq fun u => ?_
  have hv : i < s.length := by rw [handsV_length] at hi'; exact hi'
  have a := H2 i hv u
  have b := hands_bit K hv u
  rw [List.getD_eq_getElem?_getD, List.getElem?_eq_getElem hi] at a
  rw [List.getD_eq_getElem?_getD, List.getElem?_eq_getElem hi'] at b
  simp only [Option.getD_some] at a b
  rw [a, b, Bool.and_comm]

theorem lexI_nc (y : Int) (b : List Int) : lexI [] (y :: b) = -1 := by simp [lexI, preI]
theorem lexI_cc (x y : Int) (a b : List Int) : lexI (x :: a) (y :: b) = if x < y then -1 else if y < x then 1 else lexI a b := by
  unfold lexI
  rw [preI]
  by_cases h : x < y
  · simp [h]
  · by_cases h' : y < x
    · simp [h, h']
    · simp only [h, h', if_false]
      cases preI a b with
      | some r => rfl
      | none => simp
theorem lexI_self : ∀ a : List Int, lexI a a = 0
  | [] => rfl
  | x :: a => by rw [lexI_cc, if_neg (by omega), if_neg (by omega)]; exact lexI_self a
theorem ci_cons (x : Nat) (r : List Nat) : ci (x :: r) = (x : Int) :: ci r := rfl
theorem ci_nil : ci [] = [] := rfl
def lexLt (a b : List Nat) : Prop := lexI (ci a) (ci b) < 0
theorem lexLt_nc (b : List Nat) (h : b ≠ []) : lexLt [] b := by
  cases b with
  | nil => exact absurd rfl h
  | cons y b => unfold lexLt; rw [ci_nil, ci_cons, lexI_nc]; omega
theorem lexLt_irr (a : List Nat) : ¬ lexLt a a := by unfold lexLt; rw [lexI_self]; omega
/-- The lists are in order. -/
theorem asc_lex (d : Nat) : ∀ i, (asc i d).Pairwise lexLt := by
  induction d with
  | zero => intro i; simp [asc]
  | succ d ih =>
    intro i
    have h := ih (i + 1)
    have hh := asc_head (i + 1) d
    rw [hh] at h
    have ht := (List.pairwise_cons.1 h)
    have hne : ∀ l ∈ (asc (i + 1) d).tail, l ≠ [] := fun l hl e => by
      subst e; exact lexLt_irr [] (ht.1 [] hl)
    show ([] :: ((asc (i + 1) d).map (i :: ·) ++ (asc (i + 1) d).tail)).Pairwise lexLt
    rw [List.pairwise_cons, List.pairwise_append]
    refine ⟨fun l hl => ?_, ?_, ht.2, ?_⟩
    · rcases List.mem_append.1 hl with c | c
      · obtain ⟨r, _, rfl⟩ := List.mem_map.1 c
        exact lexLt_nc _ (by simp)
      · exact lexLt_nc _ (hne l c)
    · rw [List.pairwise_map]
      refine (ih (i + 1)).imp fun {a b} hab => ?_
      unfold lexLt at *
      rw [ci_cons, ci_cons, lexI_cc, if_neg (by omega), if_neg (by omega)]
      exact hab
    · intro a ha b hb
      obtain ⟨r, _, rfl⟩ := List.mem_map.1 ha
      have hm : b ∈ asc (i + 1) d := List.mem_of_mem_tail hb
      cases b with
      | nil => exact absurd rfl (hne [] hb)
      | cons y b =>
        have := (asc_mem d (i + 1) _ hm) y (by simp)
        unfold lexLt
        rw [ci_cons, ci_cons, lexI_cc, if_pos (by omega)]
        omega
def bets (bet : List Nat → List Nat → Bool) (l : List Nat) : Option (List Nat) → Bool
  | none => true
  | some c => bet l c
/-- The best one, list by list. -/
def pick (good : List Nat → Bool) (bet : List Nat → List Nat → Bool) : List (List Nat) → Option (List Nat) → Option (List Nat)
  | [], b => b
  | l :: r, b => pick good bet r (if good l && bets bet l b then some l else b)
end Go.Am.Post

/-
  What functions of chapter 12 compute, by tables, members handed over 4: members, apart; the law 'PostGuarded'.
-/
set_option linter.unusedVariables false
set_option linter.unusedSimpArgs false
set_option maxRecDepth 10000
set_option maxHeartbeats 2000000
namespace Go.Am.Post
open Go.Am.G

/-! ### Members are handed over -/
theorem gv_shift (i k : Nat) (l : List Int) : (GV i l).shift k = GV (k + i) l := by
  unfold GV
  split
  · simp [LV.shift, LV.shifts]
  · simp [LV.shift, Nat.add_comm]
theorem gm_shift (k : Nat) (l : List Int) : (GM l).map (fun b => ⟨LV.shifts k b.cells, b.own⟩) = GM l := by
  unfold GM
  split
  · rfl
  · simp [pures_shift k _ (pures_int _ l)]
theorem memb_o {x : Nat} (hx : x < 1024) (m : LMem) : clF LP n_law12_members [.int .u64 (x : Int)] m = some (.O, GV m.length (ci (memL x)), m ++ GM (ci (memL x))) := by
  have h := mem_loop (memL x).length x [] hx rfl (by have := memR_len x 0 10; show 0 + _ ≤ 100; unfold memL; omega)
  rw [List.nil_append] at h
  have h : exF LP law12_members.L0 [(0, .int .u64 (x : Int)), (3, .lst true true 0 0 [])] [] = some (.exit 0, [(3, GV 0 (ci (memL x)))], GM (ci (memL x))) := h
  have hc := call_O (v := GV 0 (ci (memL x))) (m1 := GM (ci (memL x))) lp_law12_members rfl (args := [.int .u64 (x : Int)]) (by simp [LV.pures, LV.pure]) (by simp only [law12_members, law12_members.B, beqT, beqF, exF_seq, exF_region, exF_block, exF_cond, exF_ret, exF_exit, exF_skip, runL, wantL, stepL, evL, evC, LEnv.at, putL, loadFine, loadL, cellsAt, Trk.putNew, Trk.up, Trk.touch, Trk.gives, Trk.calm, Trk.hit, opdsOf, Trk.fresh, LEnv.keep, LEnv.ofFrom, List.map_cons, List.map_nil, nbeq, nble, nblt, ofAV, ofAVs, lenL, bin_add, bin_sub, bin_mul, bin_eql, bin_neq, bin_lss, bin_leq, bin_gtr, bin_geq, natL_nat, natL_zero, natL_one, natL_two, Nat.zero_mul, List.any_cons, List.any_nil, Bool.or_false, Bool.false_or, Bool.true_or, Bool.or_true, Bool.and_true, Bool.true_and, Bool.and_false, Bool.false_and, Bool.not_true, Bool.not_false, Nat.reduceBEq, Nat.reduceEqDiff, decide_true, decide_false, cond_true, cond_false, List.filter_nil, List.filter_cons, Nat.reduceAdd, Nat.reduceLeDiff, reduceCtorEq, List.length_nil, List.length_cons, Nat.mul_one, if_true, if_false, Bool.false_eq_true, eq_self, and_true, true_and, retL, resultsL, resAllL, resOfL, List.append_nil, List.nil_append, List.cons_append, true_or, or_true, false_or, or_false, false_and, and_false, not_true_eq_false, not_false_eq_true, ne_eq, unL, trim_nil, views_pures, LV.pures, LV.pure, freeze, Nat.reduceDiv, Int.reduceEq, Int.reduceLT, Int.reduceLE, Int.natCast_zero, LV.cells, allocL, List.getElem?_cons_zero, List.getElem?_cons_succ, storeL, spliceL, List.take_zero, List.take_succ_cons, List.drop_zero, List.drop_succ_cons, List.drop_nil, List.take_nil, Nat.le_refl, Nat.reduceMul, List.set_cons_zero, List.set_cons_succ, LV.scalar, List.all_cons, List.all_nil, Nat.lt_add_one, Nat.zero_lt_one, Nat.reduceLT, Nat.lt_irrefl, fillL, List.length_append, foldIntL, kind_beq, pures_int, solids_int, plains_int, unders_int, scalars_int, h]) m
  rw [hc, gv_shift, gm_shift, Nat.add_zero]
end Go.Am.Post


