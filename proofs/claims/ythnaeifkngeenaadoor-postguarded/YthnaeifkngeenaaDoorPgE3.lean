import Derived.Test.YthnaeifkngeenaaDoorPgE2
import Derived.Test.YthnaeifkngeenaaDoorPgC15
/-
  What functions of chapter 12 compute, by tables 3: plain facts: what is at hand, the first list, parities.
-/
set_option linter.unusedVariables false
set_option linter.unusedSimpArgs false
set_option maxRecDepth 10000
namespace Go.Am.Post
open Go.Am.G

/-! ### What is at hand of a shore by numbers -/
def HB (s : List Int) (h : List Nat) : Prop := h.length = s.length ∧ ∀ v, v < s.length → ∀ u, (h.getD v 0).testBit u = (decide (u < s.length) && nb s v u)
theorem nb_app {s : List Int} {b : Int} {v u : Nat} (hv : v < s.length) (hu : u < s.length) : nb (s ++ [b]) v u = nb s v u := by
  unfold nb
  rw [getD_app hv, getD_app hu]
theorem getD_last {α : Type} (s : List α) (b d : α) : (s ++ [b]).getD s.length d = b := by
  rw [getD_app2 (Nat.le_refl _), Nat.sub_self]; rfl
theorem hb_step {s : List Int} (K : OkS s) {b : Nat} (hb : b < s.length) {h : List Nat} (H : HB s h) : HB (s ++ [(b : Int)]) (hset (h ++ [2 ^ s.length ||| 2 ^ b]) b s.length) := by
  obtain ⟨hl, H⟩ := H
  refine ⟨by rw [hset_length]; simp [hl], fun v hv u => ?_⟩
  rw [List.length_append, List.length_singleton] at hv ⊢
  rw [getD_hset]
  have hlen : (h ++ [2 ^ s.length ||| 2 ^ b]).length = s.length + 1 := by simp [hl]
  have hlast : (s ++ [(b : Int)]).getD s.length 0 = (b : Int) := getD_last s _ 0
  have small : ∀ x, x < s.length → (s.getD x 0 ≠ (s.length : Int)) := fun x hx => by
    by_cases c : x = 0
    · subst c; rw [K.h0]; omega
    · have := K.hi x (by omega) hx; omega
  by_cases e : v = s.length
  · subst e
    rw [if_neg (by omega)]
    have : (h ++ [2 ^ s.length ||| 2 ^ b]).getD s.length 0 = 2 ^ s.length ||| 2 ^ b := by rw [← hl]; exact getD_last h _ 0
    rw [this, Nat.testBit_or, Nat.testBit_two_pow, Nat.testBit_two_pow]
    unfold nb
    rw [hlast]
    by_cases eu : u = s.length
    · subst eu; simp
    · by_cases hu : u < s.length
      · rw [getD_app hu]
        have := small u hu
        rw [Bool.eq_iff_iff]; simp only [Bool.and_eq_true, Bool.or_eq_true, decide_eq_true_eq, Bool.false_eq_true, and_true, true_and]; omega
      · rw [Bool.eq_iff_iff]; simp only [Bool.and_eq_true, Bool.or_eq_true, decide_eq_true_eq, Bool.false_eq_true, and_true, true_and]; omega
  · have hv' : v < s.length := by omega
    have hold : (h ++ [2 ^ s.length ||| 2 ^ b]).getD v 0 = h.getD v 0 := getD_app (by omega)
    have hold2 : (h ++ [2 ^ s.length ||| 2 ^ b]).getD b 0 = h.getD b 0 := getD_app (by omega)
    have key : ((if v = b ∧ b < (h ++ [2 ^ s.length ||| 2 ^ b]).length then (h ++ [2 ^ s.length ||| 2 ^ b]).getD b 0 ||| 2 ^ s.length else (h ++ [2 ^ s.length ||| 2 ^ b]).getD v 0).testBit u) = ((h.getD v 0).testBit u || (decide (v = b) && decide (u = s.length))) := by
      by_cases c : v = b
      · subst c
        rw [if_pos ⟨rfl, by omega⟩, hold2, Nat.testBit_or, Nat.testBit_two_pow]
        have e2 : (s.length = u) ↔ (u = s.length) := ⟨Eq.symm, Eq.symm⟩
        simp [e2]
      · rw [if_neg (by simp [c]), hold]; simp [c]
    rw [key, H v hv' u]
    by_cases eu : u = s.length
    · subst eu
      unfold nb
      rw [hlast, getD_app hv']
      have := small v hv'
      rw [Bool.eq_iff_iff]; simp only [Bool.and_eq_true, Bool.or_eq_true, decide_eq_true_eq, Bool.false_eq_true, and_true, true_and]; omega
    · by_cases hu : u < s.length
      · rw [nb_app hv' hu]
        have e3 : u < s.length + 1 := by omega
        simp [eu, hu, e3]
      · rw [Bool.eq_iff_iff]; simp only [Bool.and_eq_true, Bool.or_eq_true, decide_eq_true_eq, Bool.false_eq_true, and_true, true_and]; omega
theorem hb_loop (bs : List Nat) (d : Nat) : ∀ (i : Nat) (s : List Int) (h : List Nat), 1 ≤ i → s.length = i → i + d ≤ 10 → OkS s → HB s h → HB (shN bs d i s) (haN bs d i h) := by
  induction d with
  | zero => intro i s h _ _ _ _ H; exact H
  | succ d ih =>
    intro i s h h1 hl h10 K H
    rw [shN, haN]
    have hm : bs.getD i 0 % i < i := Nat.mod_lt _ h1
    generalize bs.getD i 0 % i = q at *
    subst hl
    have K2 : OkS (s ++ [(q : Int)]) := by
      have := shN_ok [] 0 s.length s (by omega) rfl (by omega) K
      refine ⟨by simp, by simp; omega, ?_, ?_⟩
      · rw [getD_app K.pos]; exact K.h0
      · intro j j0 hj
        by_cases c : j < s.length
        · rw [getD_app c]; exact K.hi j j0 c
        · have e : j = s.length := by simp at hj; omega
          subst e
          rw [getD_last]
          omega
    exact ih (s.length + 1) _ _ (by omega) (by simp) (by omega) K2 (hb_step K hm H)
theorem hand_eq (n : Nat) (h1 : 1 ≤ n) (h10 : n ≤ 10) (bs : List Nat) : handN n bs = handsV (shoreN n bs) := by
  obtain ⟨K, hl⟩ := shoreN_ok n h1 h10 bs
  have H0 : HB [-1] [1] := by
    refine ⟨rfl, fun v hv u => ?_⟩
    obtain rfl : v = 0 := by simp at hv; omega
    have e : ([1] : List Nat).getD 0 0 = 2 ^ 0 := rfl
    rw [e, Nat.testBit_two_pow]
    unfold nb
    rw [Bool.eq_iff_iff]
    simp
    omega
  have H := hb_loop bs (n - 1) 1 [-1] [1] (by omega) rfl (by omega) ⟨by simp, by simp, rfl, fun j h0 hj => by simp at hj; omega⟩ H0
  change HB (shoreN n bs) (handN n bs) at H
  generalize shoreN n bs = s at *
  obtain ⟨H1, H2⟩ := H
  apply List.ext_getElem (by rw [H1, handsV_length])
  intro i hi hi'
  refine Nat.eq_of_testBit_eq fun u => ?_
  have hv : i < s.length := by rw [handsV_length] at hi'; exact hi'
  have a := H2 i hv u
  have b := hands_bit K hv u
  rw [List.getD_eq_getElem?_getD, List.getElem?_eq_getElem hi] at a
  rw [List.getD_eq_getElem?_getD, List.getElem?_eq_getElem hi'] at b
  simp only [Option.getD_some] at a b
  rw [a, b, Bool.and_comm]

theorem ci_cons (x : Nat) (r : List Nat) : ci (x :: r) = (x : Int) :: ci r := rfl
def bets (bet : List Nat → List Nat → Bool) (l : List Nat) : Option (List Nat) → Bool
  | none => true
  | some c => bet l c
/-- The best one, list by list. -/
def pick (good : List Nat → Bool) (bet : List Nat → List Nat → Bool) : List (List Nat) → Option (List Nat) → Option (List Nat)
  | [], b => b
  | l :: r, b => pick good bet r (if good l && bets bet l b then some l else b)
theorem listE_of (N : Nat) : ∀ (q : List Nat) (i : Nat), up i q → (∀ x ∈ q, x < N) → listE (N : Int) ((i : Int) - 1) (ci q) = 0
  | [], i, _, _ => rfl
  | x :: r, i, h, hN => by
    have hx := hN x (by simp)
    have h1 := h.1
    rw [ci_cons, listE, if_neg (by omega), if_neg (by omega)]
    have := listE_of N r (x + 1) h.2 fun y hy => hN y (by simp [hy])
    rw [show ((x + 1 : Nat) : Int) - 1 = (x : Int) by omega] at this
    exact this
theorem listV_of {s : List Int} (K : OkS s) {q : List Nat} (hq : q ∈ asc 0 s.length) : listV s (ci q) = 0 := by
  have hm := (mem_asc _ _ _).1 hq
  unfold listV
  rw [K.chk, if_neg (by simp)]
  exact listE_of s.length q 0 hm.1 fun x hx => by have := hm.2 x hx; omega
theorem ci_nat (q : List Nat) : (ci q).map Int.toNat = q := by simp [ci, Function.comp_def]
end Go.Am.Post

/-
  What functions of chapter 12 compute, by tables, members handed over 4: members, apart; the law 'PostGuarded'.
-/
set_option linter.unusedVariables false
set_option linter.unusedSimpArgs false
set_option maxRecDepth 10000
set_option maxHeartbeats 2000000
namespace Go.Am.Post
open Go.Am.G

/-! ### Members are handed over -/
theorem gv_shift (i k : Nat) (l : List Int) : (GV i l).shift k = GV (k + i) l := by
  unfold GV
  split
  · simp [LV.shift, LV.shifts]
  · simp [LV.shift, Nat.add_comm]
theorem gm_shift (k : Nat) (l : List Int) : (GM l).map (fun b => ⟨LV.shifts k b.cells, b.own⟩) = GM l := by
  unfold GM
  split
  · rfl
  · simp [pures_shift k _ (pures_int _ l)]
theorem memb_o {x : Nat} (hx : x < 1024) (m : LMem) : clF LP n_law12_members [.int .u64 (x : Int)] m = some (.O, GV m.length (ci (memL x)), m ++ GM (ci (memL x))) := by
  have h := mem_loop (memL x).length x [] hx rfl (by have := memR_len x 0 10; show 0 + _ ≤ 100; unfold memL; omega)
  rw [List.nil_append] at h
  have h : exF LP law12_members.L0 [(0, .int .u64 (x : Int)), (3, .lst true true 0 0 [])] [] = some (.exit 0, [(3, GV 0 (ci (memL x)))], GM (ci (memL x))) := h
  have hc := call_O (v := GV 0 (ci (memL x))) (m1 := GM (ci (memL x))) lp_law12_members rfl (args := [.int .u64 (x : Int)]) (by simp [LV.pures, LV.pure]) (by simp only [law12_members, law12_members.B, beqT, beqF, exF_seq, exF_region, exF_block, exF_cond, exF_ret, exF_exit, exF_skip, runL, wantL, stepL, evL, evC, LEnv.at, putL, loadFine, loadL, cellsAt, Trk.putNew, Trk.up, Trk.touch, Trk.gives, Trk.calm, Trk.hit, opdsOf, Trk.fresh, LEnv.keep, LEnv.ofFrom, List.map_cons, List.map_nil, nbeq, nble, nblt, ofAV, ofAVs, lenL, bin_add, bin_sub, bin_mul, bin_eql, bin_neq, bin_lss, bin_leq, bin_gtr, bin_geq, natL_nat, natL_zero, natL_one, natL_two, Nat.zero_mul, List.any_cons, List.any_nil, Bool.or_false, Bool.false_or, Bool.true_or, Bool.or_true, Bool.and_true, Bool.true_and, Bool.and_false, Bool.false_and, Bool.not_true, Bool.not_false, Nat.reduceBEq, Nat.reduceEqDiff, decide_true, decide_false, cond_true, cond_false, List.filter_nil, List.filter_cons, Nat.reduceAdd, Nat.reduceLeDiff, reduceCtorEq, List.length_nil, List.length_cons, Nat.mul_one, if_true, if_false, Bool.false_eq_true, eq_self, and_true, true_and, retL, resultsL, resAllL, resOfL, List.append_nil, List.nil_append, List.cons_append, true_or, or_true, false_or, or_false, false_and, and_false, not_true_eq_false, not_false_eq_true, ne_eq, unL, trim_nil, views_pures, LV.pures, LV.pure, freeze, Nat.reduceDiv, Int.reduceEq, Int.reduceLT, Int.reduceLE, Int.natCast_zero, LV.cells, allocL, List.getElem?_cons_zero, List.getElem?_cons_succ, storeL, spliceL, List.take_zero, List.take_succ_cons, List.drop_zero, List.drop_succ_cons, List.drop_nil, List.take_nil, Nat.le_refl, Nat.reduceMul, List.set_cons_zero, List.set_cons_succ, LV.scalar, List.all_cons, List.all_nil, Nat.lt_add_one, Nat.zero_lt_one, Nat.reduceLT, Nat.lt_irrefl, fillL, List.length_append, foldIntL, kind_beq, pures_int, solids_int, plains_int, unders_int, scalars_int, h]) m
  rw [hc, gv_shift, gm_shift, Nat.add_zero]
theorem gv_view (M : LMem) (l : List Int) (k : Nat) : view (k + 3) (M ++ GM l) (GV M.length l) = some (RL l, if l = [] then [] else [M.length]) := view_grow k M l

/-! ### Apart -/
theorem lapart_loop (d : Bool) {s : List Int} (K : OkS s) (q : List Nat) (hq : ∀ x ∈ q, x < s.length) (hl : q.length < 1000) (N : Nat) (hN : N = q.length) (m : LMem) (hmem : m[0]? = some ⟨ints (ci q), true⟩) (n : Nat) : ∀ (k met : Nat), k + n = N → met < 1024 →
    exF LP law12_apart.L0 [(0, UD d (handsV s)), (5, .int .u64 (met : Int)), (9, .sl 0 0 N N 1 1 N), (10, .int .i64 (N : Int)), (11, .int .i64 (k : Int))] m = if fits (hd s) met (q.drop k) then some (.exit 0, [], m) else some (.ret, [(4, .bool false)], m) := by
  induction n with
  | zero =>
    intro k met hk _
    rw [law12_apart.L0_eq]
    simp only [law12_apart.B0, beqT, beqF, exF_seq, exF_region, exF_block, exF_cond, exF_ret, exF_exit, exF_skip, runL, wantL, stepL, evL, evC, LEnv.at, putL, loadFine, loadL, cellsAt, Trk.putNew, Trk.up, Trk.touch, Trk.gives, Trk.calm, Trk.hit, opdsOf, Trk.fresh, LEnv.keep, LEnv.ofFrom, List.map_cons, List.map_nil, nbeq, nble, nblt, ofAV, ofAVs, lenL, bin_add, bin_sub, bin_mul, bin_eql, bin_neq, bin_lss, bin_leq, bin_gtr, bin_geq, natL_nat, natL_zero, natL_one, natL_two, Nat.zero_mul, List.any_cons, List.any_nil, Bool.or_false, Bool.false_or, Bool.true_or, Bool.or_true, Bool.and_true, Bool.true_and, Bool.and_false, Bool.false_and, Bool.not_true, Bool.not_false, Nat.reduceBEq, Nat.reduceEqDiff, decide_true, decide_false, cond_true, cond_false, List.filter_nil, List.filter_cons, Nat.reduceAdd, Nat.reduceLeDiff, reduceCtorEq, List.length_nil, List.length_cons, Nat.mul_one, if_true, if_false, Bool.false_eq_true, eq_self, and_true, true_and, retL, resultsL, resAllL, resOfL, List.append_nil, List.nil_append, List.cons_append, true_or, or_true, false_or, or_false, false_and, and_false, not_true_eq_false, not_false_eq_true, ne_eq, unL, trim_nil, views_pures, LV.pures, LV.pure, freeze, Nat.reduceDiv, Int.reduceEq, Int.reduceLT, Int.reduceLE, Int.natCast_zero, LV.cells, allocL, List.getElem?_cons_zero, List.getElem?_cons_succ, storeL, spliceL, List.take_zero, List.take_succ_cons, List.drop_zero, List.drop_succ_cons, List.drop_nil, List.take_nil, Nat.le_refl, Nat.reduceMul, List.set_cons_zero, List.set_cons_succ, LV.scalar, List.all_cons, List.all_nil, Nat.lt_add_one, Nat.zero_lt_one, Nat.reduceLT, Nat.lt_irrefl, fillL, List.length_append, foldIntL, kind_beq, pures_int, solids_int, plains_int, unders_int, scalars_int, show ¬ ((k : Int) < (N : Int)) by omega]
    simp [List.drop_eq_nil_of_le (show q.length ≤ k by omega), fits]
  | succ n ih =>
    intro k met hk hm
    have h2 : k < q.length := by omega
    have h3 : k < N := by omega
    have hci := ci_at q k h2
    have hx := hq _ (List.getElem_mem h2)
    have hlen : q[k] < (handsV s).length := by rw [handsV_length]; exact hx
    have hn : (nats (handsV s))[q[k]]? = some (.int .u64 ((hd s q[k] : Nat) : Int)) := nats_getD (handsV s) q[k] hlen
    have hh : hd s q[k] < 1024 := hands_lt K _
    have o1 := bits_and (a := met) (b := hd s q[k]) (by omega) (by omega)
    have o2 := bits_or (a := met) (b := hd s q[k]) (by omega) (by omega)
    have ih := ih (k + 1) (met ||| hd s q[k]) (by omega) (Nat.or_lt_two_pow (n := 10) hm hh)
    have hcl : (ints (ci q)).length = N := by simp [hN]
    rw [law12_apart.L0_eq, List.drop_eq_getElem_cons h2, fits, Nat.and_comm (hd s q[k]) met]
    by_cases c : met &&& hd s q[k] = 0
    · have c' : ¬ ((met &&& hd s q[k] : Nat) : Int) ≠ 0 := by omega
      simp only [law12_apart.B0, beqT, beqF, exF_seq, exF_region, exF_block, exF_cond, exF_ret, exF_exit, exF_skip, runL, wantL, stepL, evL, evC, LEnv.at, putL, loadFine, loadL, cellsAt, Trk.putNew, Trk.up, Trk.touch, Trk.gives, Trk.calm, Trk.hit, opdsOf, Trk.fresh, LEnv.keep, LEnv.ofFrom, List.map_cons, List.map_nil, nbeq, nble, nblt, ofAV, ofAVs, lenL, bin_add, bin_sub, bin_mul, bin_eql, bin_neq, bin_lss, bin_leq, bin_gtr, bin_geq, natL_nat, natL_zero, natL_one, natL_two, Nat.zero_mul, List.any_cons, List.any_nil, Bool.or_false, Bool.false_or, Bool.true_or, Bool.or_true, Bool.and_true, Bool.true_and, Bool.and_false, Bool.false_and, Bool.not_true, Bool.not_false, Nat.reduceBEq, Nat.reduceEqDiff, decide_true, decide_false, cond_true, cond_false, List.filter_nil, List.filter_cons, Nat.reduceAdd, Nat.reduceLeDiff, reduceCtorEq, List.length_nil, List.length_cons, Nat.mul_one, if_true, if_false, Bool.false_eq_true, eq_self, and_true, true_and, retL, resultsL, resAllL, resOfL, List.append_nil, List.nil_append, List.cons_append, true_or, or_true, false_or, or_false, false_and, and_false, not_true_eq_false, not_false_eq_true, ne_eq, unL, trim_nil, views_pures, LV.pures, LV.pure, freeze, Nat.reduceDiv, Int.reduceEq, Int.reduceLT, Int.reduceLE, Int.natCast_zero, LV.cells, allocL, List.getElem?_cons_zero, List.getElem?_cons_succ, storeL, spliceL, List.take_zero, List.take_succ_cons, List.drop_zero, List.drop_succ_cons, List.drop_nil, List.take_nil, Nat.le_refl, Nat.reduceMul, List.set_cons_zero, List.set_cons_succ, LV.scalar, List.all_cons, List.all_nil, Nat.lt_add_one, Nat.zero_lt_one, Nat.reduceLT, Nat.lt_irrefl, fillL, List.length_append, foldIntL, kind_beq, pures_int, solids_int, plains_int, unders_int, scalars_int, show ((k : Int) < (N : Int)) by omega, hcl, h3, hmem, Nat.zero_add, hci, hlen, hn, o1, c, c', o2, wrap_succ (show k + 1 < 9223372036854775808 by omega), ih]
    · have c' : ((met &&& hd s q[k] : Nat) : Int) ≠ 0 := by omega
      have c'' : ¬ ((met &&& hd s q[k] : Nat) : Int) = 0 := by omega
      simp only [law12_apart.B0, beqT, beqF, exF_seq, exF_region, exF_block, exF_cond, exF_ret, exF_exit, exF_skip, runL, wantL, stepL, evL, evC, LEnv.at, putL, loadFine, loadL, cellsAt, Trk.putNew, Trk.up, Trk.touch, Trk.gives, Trk.calm, Trk.hit, opdsOf, Trk.fresh, LEnv.keep, LEnv.ofFrom, List.map_cons, List.map_nil, nbeq, nble, nblt, ofAV, ofAVs, lenL, bin_add, bin_sub, bin_mul, bin_eql, bin_neq, bin_lss, bin_leq, bin_gtr, bin_geq, natL_nat, natL_zero, natL_one, natL_two, Nat.zero_mul, List.any_cons, List.any_nil, Bool.or_false, Bool.false_or, Bool.true_or, Bool.or_true, Bool.and_true, Bool.true_and, Bool.and_false, Bool.false_and, Bool.not_true, Bool.not_false, Nat.reduceBEq, Nat.reduceEqDiff, decide_true, decide_false, cond_true, cond_false, List.filter_nil, List.filter_cons, Nat.reduceAdd, Nat.reduceLeDiff, reduceCtorEq, List.length_nil, List.length_cons, Nat.mul_one, if_true, if_false, Bool.false_eq_true, eq_self, and_true, true_and, retL, resultsL, resAllL, resOfL, List.append_nil, List.nil_append, List.cons_append, true_or, or_true, false_or, or_false, false_and, and_false, not_true_eq_false, not_false_eq_true, ne_eq, unL, trim_nil, views_pures, LV.pures, LV.pure, freeze, Nat.reduceDiv, Int.reduceEq, Int.reduceLT, Int.reduceLE, Int.natCast_zero, LV.cells, allocL, List.getElem?_cons_zero, List.getElem?_cons_succ, storeL, spliceL, List.take_zero, List.take_succ_cons, List.drop_zero, List.drop_succ_cons, List.drop_nil, List.take_nil, Nat.le_refl, Nat.reduceMul, List.set_cons_zero, List.set_cons_succ, LV.scalar, List.all_cons, List.all_nil, Nat.lt_add_one, Nat.zero_lt_one, Nat.reduceLT, Nat.lt_irrefl, fillL, List.length_append, foldIntL, kind_beq, pures_int, solids_int, plains_int, unders_int, scalars_int, show ((k : Int) < (N : Int)) by omega, hcl, h3, hmem, Nat.zero_add, hci, hlen, hn, o1, c, c', c'']
/-- Places are apart. -/
theorem lapart_c (d : Bool) {s : List Int} (K : OkS s) {x : Nat} (hx : x < 2 ^ s.length) (m : LMem) : clF LP n_law12_apart [UD d (handsV s), .int .u64 (x : Int)] m = some (.P, .bool (fits (hd s) 0 (memL x)), m) := by
  have hs := K.le
  have hx2 : x < 1024 := Nat.lt_of_lt_of_le hx (pow_1024 hs)
  have h10 := memL_len x
  have hm := memb_o hx2 []
  have hlt := memL_lt hx
  generalize memL x = q at *
  by_cases h0 : q = []
  · subst h0
    have hm : clF LP n_law12_members [.int .u64 (x : Int)] [] = some (.O, .lst true true 0 0 [], []) := hm
    have hlo : exF LP law12_apart.L0 [(0, UD d (handsV s)), (5, .int .u64 0), (9, .lst true true 0 0 []), (10, .int .i64 0), (11, .int .i64 0)] [] = some (.exit 0, [], []) := by
      rw [law12_apart.L0_eq]
      simp only [law12_apart.B0, beqT, beqF, exF_seq, exF_region, exF_block, exF_cond, exF_ret, exF_exit, exF_skip, runL, wantL, stepL, evL, evC, LEnv.at, putL, loadFine, loadL, cellsAt, Trk.putNew, Trk.up, Trk.touch, Trk.gives, Trk.calm, Trk.hit, opdsOf, Trk.fresh, LEnv.keep, LEnv.ofFrom, List.map_cons, List.map_nil, nbeq, nble, nblt, ofAV, ofAVs, lenL, bin_add, bin_sub, bin_mul, bin_eql, bin_neq, bin_lss, bin_leq, bin_gtr, bin_geq, natL_nat, natL_zero, natL_one, natL_two, Nat.zero_mul, List.any_cons, List.any_nil, Bool.or_false, Bool.false_or, Bool.true_or, Bool.or_true, Bool.and_true, Bool.true_and, Bool.and_false, Bool.false_and, Bool.not_true, Bool.not_false, Nat.reduceBEq, Nat.reduceEqDiff, decide_true, decide_false, cond_true, cond_false, List.filter_nil, List.filter_cons, Nat.reduceAdd, Nat.reduceLeDiff, reduceCtorEq, List.length_nil, List.length_cons, Nat.mul_one, if_true, if_false, Bool.false_eq_true, eq_self, and_true, true_and, retL, resultsL, resAllL, resOfL, List.append_nil, List.nil_append, List.cons_append, true_or, or_true, false_or, or_false, false_and, and_false, not_true_eq_false, not_false_eq_true, ne_eq, unL, trim_nil, views_pures, LV.pures, LV.pure, freeze, Nat.reduceDiv, Int.reduceEq, Int.reduceLT, Int.reduceLE, Int.natCast_zero, LV.cells, allocL, List.getElem?_cons_zero, List.getElem?_cons_succ, storeL, spliceL, List.take_zero, List.take_succ_cons, List.drop_zero, List.drop_succ_cons, List.drop_nil, List.take_nil, Nat.le_refl, Nat.reduceMul, List.set_cons_zero, List.set_cons_succ, LV.scalar, List.all_cons, List.all_nil, Nat.lt_add_one, Nat.zero_lt_one, Nat.reduceLT, Nat.lt_irrefl, fillL, List.length_append, foldIntL, kind_beq, pures_int, solids_int, plains_int, unders_int, scalars_int]
    refine call_P lp_law12_apart rfl (by simp [LV.pures, LV.pure, pures_nats]) (m1 := []) ?_ rfl m
    simp only [law12_apart, law12_apart.B, beqT, beqF, exF_seq, exF_region, exF_block, exF_cond, exF_ret, exF_exit, exF_skip, runL, wantL, stepL, evL, evC, LEnv.at, putL, loadFine, loadL, cellsAt, Trk.putNew, Trk.up, Trk.touch, Trk.gives, Trk.calm, Trk.hit, opdsOf, Trk.fresh, LEnv.keep, LEnv.ofFrom, List.map_cons, List.map_nil, nbeq, nble, nblt, ofAV, ofAVs, lenL, bin_add, bin_sub, bin_mul, bin_eql, bin_neq, bin_lss, bin_leq, bin_gtr, bin_geq, natL_nat, natL_zero, natL_one, natL_two, Nat.zero_mul, List.any_cons, List.any_nil, Bool.or_false, Bool.false_or, Bool.true_or, Bool.or_true, Bool.and_true, Bool.true_and, Bool.and_false, Bool.false_and, Bool.not_true, Bool.not_false, Nat.reduceBEq, Nat.reduceEqDiff, decide_true, decide_false, cond_true, cond_false, List.filter_nil, List.filter_cons, Nat.reduceAdd, Nat.reduceLeDiff, reduceCtorEq, List.length_nil, List.length_cons, Nat.mul_one, if_true, if_false, Bool.false_eq_true, eq_self, and_true, true_and, retL, resultsL, resAllL, resOfL, List.append_nil, List.nil_append, List.cons_append, true_or, or_true, false_or, or_false, false_and, and_false, not_true_eq_false, not_false_eq_true, ne_eq, unL, trim_nil, views_pures, LV.pures, LV.pure, freeze, Nat.reduceDiv, Int.reduceEq, Int.reduceLT, Int.reduceLE, Int.natCast_zero, LV.cells, allocL, List.getElem?_cons_zero, List.getElem?_cons_succ, storeL, spliceL, List.take_zero, List.take_succ_cons, List.drop_zero, List.drop_succ_cons, List.drop_nil, List.take_nil, Nat.le_refl, Nat.reduceMul, List.set_cons_zero, List.set_cons_succ, LV.scalar, List.all_cons, List.all_nil, Nat.lt_add_one, Nat.zero_lt_one, Nat.reduceLT, Nat.lt_irrefl, fillL, List.length_append, foldIntL, kind_beq, pures_int, solids_int, plains_int, unders_int, scalars_int, hm, hlo, fits]
  · have hne : ci q ≠ [] := by simpa using h0
    have hcl : (ci q).length = q.length := by simp
    have hm : clF LP n_law12_members [.int .u64 (x : Int)] [] = some (.O, .sl 0 0 q.length q.length 1 1 q.length, [⟨ints (ci q), true⟩]) := by
      rw [hm]; unfold GV GM; rw [if_neg hne, if_neg hne, hcl]; rfl
    have hlp := lapart_loop d K q hlt (by omega) q.length rfl [⟨ints (ci q), true⟩] rfl q.length 0 0 (by omega) (by omega)
    simp only [Int.natCast_zero, List.drop_zero] at hlp
    refine call_P lp_law12_apart rfl (by simp [LV.pures, LV.pure, pures_nats]) (m1 := [⟨ints (ci q), true⟩]) ?_ rfl m
    generalize ([⟨ints (ci q), true⟩] : LMem) = M at *
    cases hb : fits (hd s) 0 q <;> rw [hb] at hlp <;> simp only [law12_apart, law12_apart.B, beqT, beqF, exF_seq, exF_region, exF_block, exF_cond, exF_ret, exF_exit, exF_skip, runL, wantL, stepL, evL, evC, LEnv.at, putL, loadFine, loadL, cellsAt, Trk.putNew, Trk.up, Trk.touch, Trk.gives, Trk.calm, Trk.hit, opdsOf, Trk.fresh, LEnv.keep, LEnv.ofFrom, List.map_cons, List.map_nil, nbeq, nble, nblt, ofAV, ofAVs, lenL, bin_add, bin_sub, bin_mul, bin_eql, bin_neq, bin_lss, bin_leq, bin_gtr, bin_geq, natL_nat, natL_zero, natL_one, natL_two, Nat.zero_mul, List.any_cons, List.any_nil, Bool.or_false, Bool.false_or, Bool.true_or, Bool.or_true, Bool.and_true, Bool.true_and, Bool.and_false, Bool.false_and, Bool.not_true, Bool.not_false, Nat.reduceBEq, Nat.reduceEqDiff, decide_true, decide_false, cond_true, cond_false, List.filter_nil, List.filter_cons, Nat.reduceAdd, Nat.reduceLeDiff, reduceCtorEq, List.length_nil, List.length_cons, Nat.mul_one, if_true, if_false, Bool.false_eq_true, eq_self, and_true, true_and, retL, resultsL, resAllL, resOfL, List.append_nil, List.nil_append, List.cons_append, true_or, or_true, false_or, or_false, false_and, and_false, not_true_eq_false, not_false_eq_true, ne_eq, unL, trim_nil, views_pures, LV.pures, LV.pure, freeze, Nat.reduceDiv, Int.reduceEq, Int.reduceLT, Int.reduceLE, Int.natCast_zero, LV.cells, allocL, List.getElem?_cons_zero, List.getElem?_cons_succ, storeL, spliceL, List.take_zero, List.take_succ_cons, List.drop_zero, List.drop_succ_cons, List.drop_nil, List.take_nil, Nat.le_refl, Nat.reduceMul, List.set_cons_zero, List.set_cons_succ, LV.scalar, List.all_cons, List.all_nil, Nat.lt_add_one, Nat.zero_lt_one, Nat.reduceLT, Nat.lt_irrefl, fillL, List.length_append, foldIntL, kind_beq, pures_int, solids_int, plains_int, unders_int, scalars_int, hm, hlp]
end Go.Am.Post


