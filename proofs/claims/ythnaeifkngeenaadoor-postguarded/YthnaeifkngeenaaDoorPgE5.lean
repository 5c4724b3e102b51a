/-
  What functions of chapter 12 compute, by tables, members handed over 5: the law 'PostGuarded'.
-/
import Derived.Test.YthnaeifkngeenaaDoorPgE3
set_option linter.unusedVariables false
set_option linter.unusedSimpArgs false
set_option maxRecDepth 10000
set_option maxHeartbeats 400000
namespace Go.Am.Post
open Go.Am.G

/-! ### Plain facts -/
theorem listE_end (N : Nat) : ∀ (q : List Nat) (i : Nat), up i q → (∀ x ∈ q, x < N) → listE (N : Int) ((i : Int) - 1) (ci q ++ [(N : Int)]) = 2
  | [], i, _, _ => by
    show listE (N : Int) _ [(N : Int)] = 2
    rw [listE, if_pos (.inr (Int.le_refl _))]
  | x :: r, i, h, hN => by
    have hx := hN x (by simp)
    have h1 := h.1
    rw [ci_cons, List.cons_append, listE, if_neg (by omega), if_neg (by omega)]
    have := listE_end N r (x + 1) h.2 fun y hy => hN y (by simp [hy])
    rw [show ((x + 1 : Nat) : Int) - 1 = (x : Int) by omega] at this
    exact this
theorem listV_end {s : List Int} (K : OkS s) {q : List Nat} (hq : q ∈ asc 0 s.length) : listV s (ci q ++ [(s.length : Int)]) = 2 := by
  have hm := (mem_asc _ _ _).1 hq
  unfold listV
  rw [K.chk, if_neg (by simp)]
  exact listE_end s.length q 0 hm.1 fun x hx => by have := hm.2 x hx; omega
theorem grd_more {s : List Int} {q r : List Nat} (h : ∀ x ∈ q, x ∈ r) (hg : grdB s q = true) : grdB s r = true := by
  unfold grdB at *
  rw [List.all_eq_true] at hg ⊢
  intro v hv
  have := hg v hv
  rw [List.any_eq_true] at this ⊢
  obtain ⟨u, hu, hn⟩ := this
  exact ⟨u, h u hu, hn⟩
theorem bit_mem {x : Nat} (hx : x < 1024) (i : Nat) : i ∈ memL x ↔ x.testBit i = true := by
  rw [memL_mem]
  constructor
  · exact fun h => h.2
  · intro h
    refine ⟨?_, h⟩
    by_cases c : i < 10
    · exact c
    · have : x < 2 ^ i := Nat.lt_of_lt_of_le hx (Nat.pow_le_pow_right (n := 2) (by omega) (show 10 ≤ i by omega))
      rw [Nat.testBit_lt_two_pow this] at h; cases h
theorem weak_len {s : List Int} (K : OkS s) {P S : List Nat} (hP : P ∈ asc 0 s.length) (hS : S ∈ asc 0 s.length) (hf : fits (hd s) 0 P = true) (hg : grdB s S = true) : P.length ≤ S.length := by
  rw [grd_dom K hS] at hg
  exact weak (par s) s.length hg (fun p hp => by have := ((mem_asc _ _ _).1 hP).2 p hp; omega) ((fits_far K hP).1 hf)
theorem ushl (i : Nat) (h : i < 64) : binL .shl (.int .u64 1) (.int .u64 (i : Int)) = some (.int .u64 ((2 ^ i : Nat) : Int)) := by
  rw [← bits_shl h, bin_shl _ _ _ _ (by omega), bin_shl _ _ _ _ (by omega)]

/-! ### Calls with a list that was handed over -/
theorem views_o (M : LMem) (l : List Int) (a : LV) (ha : a.pure = true) : ∃ ids, views (M ++ GM l) [a, GV M.length l] = some ([a, RL l], ids) := by
  by_cases h : l = []
  · subst h
    exact ⟨[], views_pures _ _ (by simp [LV.pures, LV.pure, GV, ha])⟩
  · exact ⟨_, views_snd 32 (M ++ GM l) a _ _ _ (fun k => gv_view M l k) ha (by simp [LV.pures, LV.pure, GV, h])⟩
theorem rl_pure (l : List Int) : (RL l).pure = true := by simp [LV.pure]
theorem same_o (M : LMem) (l : List Int) (hl : l.length < 1000) : ∃ m', clF LP n_law12_same [RL l, GV M.length l] (M ++ GM l) = some (.P, .bool true, m') := by
  obtain ⟨ids, hv⟩ := views_o M l (RL l) (rl_pure l)
  obtain ⟨m', h, _⟩ := call_shown lp_law12_same rfl hv (by simp [LV.pures, LV.pure]) (same_refl _ _ _ _ _ _ l (by omega) [])
  exact ⟨m', h⟩
section
variable (b : Bool) {s : List Int} (K : OkS s)
include K
theorem guards_any (l : List Int) (hl : l.length < 1000) (M : LMem) : ∃ m', clF LP n_post_Guards [IL false b 1 s, GV M.length l] (M ++ GM l) = some (.P, .int .i64 (if listV s l ≠ 0 then listV s l else guardV s (l.map Int.toNat)), m') := by
  obtain ⟨ids, hv⟩ := views_o M l (IL false b 1 s) (by simp [LV.pure])
  obtain ⟨m', h, _⟩ := call_shown lp_post_Guards rfl hv (by simp [LV.pures, LV.pure]) (guardsP_c false b _ _ 1 _ s l (by have := K.le; omega) (by omega) [])
  exact ⟨m', h⟩
theorem proves_any (l : List Int) (hl : l.length < 1000) (M : LMem) : ∃ m', clF LP n_post_Proves [IL false b 1 s, GV M.length l] (M ++ GM l) = some (.P, .int .i64 (if listV s l ≠ 0 then listV s l else provesV s (l.map Int.toNat)), m') := by
  obtain ⟨ids, hv⟩ := views_o M l (IL false b 1 s) (by simp [LV.pure])
  obtain ⟨m', h, _⟩ := call_shown lp_post_Proves rfl hv (by simp [LV.pures, LV.pure]) (provesP_c false b _ _ 1 _ s l (by have := K.le; omega) (by omega) [])
  exact ⟨m', h⟩
theorem guards_o {q : List Nat} (hq : q ∈ asc 0 s.length) (M : LMem) : ∃ m', clF LP n_post_Guards [IL false b 1 s, GV M.length (ci q)] (M ++ GM (ci q)) = some (.P, .int .i64 (if grdB s q then 0 else 14), m') := by
  obtain ⟨m', h⟩ := guards_any b K (ci q) (by have := asc_len hq; have := K.le; simp; omega) M
  rw [listV_of K hq, if_neg (by simp), ci_nat] at h
  exact ⟨m', h⟩
theorem proves_o {q : List Nat} (hq : q ∈ asc 0 s.length) (M : LMem) : ∃ m', clF LP n_post_Proves [IL false b 1 s, GV M.length (ci q)] (M ++ GM (ci q)) = some (.P, .int .i64 (if fits (hd s) 0 q then 0 else 14), m') := by
  obtain ⟨m', h⟩ := proves_any b K (ci q) (by have := asc_len hq; have := K.le; simp; omega) M
  rw [listV_of K hq, if_neg (by simp), ci_nat] at h
  exact ⟨m', h⟩
theorem guards_end {q : List Nat} (hq : q ∈ asc 0 s.length) (M : LMem) : ∃ m', clF LP n_post_Guards [IL false b 1 s, GV M.length (ci q ++ [(s.length : Int)])] (M ++ GM (ci q ++ [(s.length : Int)])) = some (.P, .int .i64 2, m') := by
  obtain ⟨m', h⟩ := guards_any b K (ci q ++ [(s.length : Int)]) (by have := asc_len hq; have := K.le; simp; omega) M
  rw [listV_end K hq, if_pos (by decide)] at h
  exact ⟨m', h⟩
theorem hand_v {i : Nat} (hi : i < s.length) (m : LMem) : clF LP n_post_Hand [IL false b 1 s, .int .i64 (i : Int)] m = some (.P, .tup [RL (ci (memL (hd s i))), .int .i64 0], m) := by
  have h := handP_c false b 1 s (by have := K.le; omega) (i : Int) m
  rw [handV, K.chk, if_neg (by simp), if_neg (by omega), Int.toNat_natCast, ← mem_hand K hi] at h
  exact h
end

/-! ### The walk -/
theorem guarded_loop (b dd : Bool) {s : List Int} (K : OkS s) (T A B : LV) (d : Nat) : ∀ (i : Nat) (m : LMem), i + d = s.length → ∃ m',
    exF LP law12_PostGuarded.L0 [(2, T), (7, IL false b 1 s), (8, UD dd (handsV s)), (10, A), (11, B), (36, .int .i64 (s.length : Int)), (37, .int .i64 (i : Int))] m =
      some (.exit 0, [(2, T), (7, IL false b 1 s), (8, UD dd (handsV s)), (10, A), (11, B)], m') := by
  induction d with
  | zero =>
    intro i m hi
    refine ⟨m, ?_⟩
    rw [law12_PostGuarded.L0_eq]
    simp (maxSteps := 1000000) only [law12_PostGuarded.B0, beqT, beqF, exF_seq, exF_region, exF_block, exF_cond, exF_ret, exF_exit, exF_skip, runL, wantL, stepL, evL, evC, LEnv.at, putL, loadFine, loadL, cellsAt, Trk.putNew, Trk.up, Trk.touch, Trk.gives, Trk.calm, Trk.hit, opdsOf, Trk.fresh, LEnv.keep, LEnv.ofFrom, List.map_cons, List.map_nil, nbeq, nble, nblt, ofAV, ofAVs, lenL, bin_add, bin_sub, bin_mul, bin_eql, bin_neq, bin_lss, bin_leq, bin_gtr, bin_geq, natL_nat, natL_zero, natL_one, natL_two, Nat.zero_mul, List.any_cons, List.any_nil, Bool.or_false, Bool.false_or, Bool.true_or, Bool.or_true, Bool.and_true, Bool.true_and, Bool.and_false, Bool.false_and, Bool.not_true, Bool.not_false, Nat.reduceBEq, Nat.reduceEqDiff, decide_true, decide_false, cond_true, cond_false, List.filter_nil, List.filter_cons, Nat.reduceAdd, Nat.reduceLeDiff, reduceCtorEq, List.length_nil, List.length_cons, Nat.mul_one, if_true, if_false, Bool.false_eq_true, eq_self, and_true, true_and, retL, resultsL, resAllL, resOfL, List.append_nil, List.nil_append, List.cons_append, true_or, or_true, false_or, or_false, false_and, and_false, not_true_eq_false, not_false_eq_true, ne_eq, unL, trim_nil, views_pures, LV.pures, LV.pure, freeze, Nat.reduceDiv, Int.reduceEq, Int.reduceLT, Int.reduceLE, Int.natCast_zero, LV.cells, allocL, List.getElem?_cons_zero, List.getElem?_cons_succ, storeL, spliceL, List.take_zero, List.take_succ_cons, List.drop_zero, List.drop_succ_cons, List.drop_nil, List.take_nil, Nat.le_refl, Nat.reduceMul, List.set_cons_zero, List.set_cons_succ, LV.scalar, List.all_cons, List.all_nil, Nat.lt_add_one, Nat.zero_lt_one, Nat.reduceLT, Nat.lt_irrefl, fillL, List.length_append, foldIntL, kind_beq, pures_int, solids_int, plains_int, unders_int, scalars_int, show ¬ ((i : Int) < (s.length : Int)) by omega]
  | succ d ih =>
    intro i m hi
    have h2 : i < s.length := by omega
    have hle := K.le
    have hh := hand_v b K h2
    have hlen : i < (handsV s).length := by rw [handsV_length]; exact h2
    have hn : (nats (handsV s))[i]? = some (.int .u64 ((hd s i : Nat) : Int)) := nats_getD (handsV s) i hlen
    have hlt : hd s i < 1024 := hands_lt K i
    have hme := memb_o hlt m
    obtain ⟨m1, hs⟩ := same_o m (ci (memL (hd s i))) (by have := memL_len (hd s i); simp; omega)
    obtain ⟨m', ih⟩ := ih (i + 1) m1 (by omega)
    refine ⟨m', ?_⟩
    rw [law12_PostGuarded.L0_eq, ← ih]
    generalize IL false b 1 s = S at *
    generalize hR : RL (ci (memL (hd s i))) = R at *
    generalize GV m.length (ci (memL (hd s i))) = G at *
    generalize m ++ GM (ci (memL (hd s i))) = m2 at *
    generalize hd s i = x at *
    simp (maxSteps := 1000000) only [law12_PostGuarded.B0, law12_PostGuarded.B0.R0, law12_PostGuarded.B0.R1, beqT, beqF, exF_seq, exF_region, exF_block, exF_cond, exF_ret, exF_exit, exF_skip, runL, wantL, stepL, evL, evC, LEnv.at, putL, loadFine, loadL, cellsAt, Trk.putNew, Trk.up, Trk.touch, Trk.gives, Trk.calm, Trk.hit, opdsOf, Trk.fresh, LEnv.keep, LEnv.ofFrom, List.map_cons, List.map_nil, nbeq, nble, nblt, ofAV, ofAVs, lenL, bin_add, bin_sub, bin_mul, bin_eql, bin_neq, bin_lss, bin_leq, bin_gtr, bin_geq, natL_nat, natL_zero, natL_one, natL_two, Nat.zero_mul, List.any_cons, List.any_nil, Bool.or_false, Bool.false_or, Bool.true_or, Bool.or_true, Bool.and_true, Bool.true_and, Bool.and_false, Bool.false_and, Bool.not_true, Bool.not_false, Nat.reduceBEq, Nat.reduceEqDiff, decide_true, decide_false, cond_true, cond_false, List.filter_nil, List.filter_cons, Nat.reduceAdd, Nat.reduceLeDiff, reduceCtorEq, List.length_nil, List.length_cons, Nat.mul_one, if_true, if_false, Bool.false_eq_true, eq_self, and_true, true_and, retL, resultsL, resAllL, resOfL, List.append_nil, List.nil_append, List.cons_append, true_or, or_true, false_or, or_false, false_and, and_false, not_true_eq_false, not_false_eq_true, ne_eq, unL, trim_nil, views_pures, LV.pures, LV.pure, freeze, Nat.reduceDiv, Int.reduceEq, Int.reduceLT, Int.reduceLE, Int.natCast_zero, LV.cells, allocL, List.getElem?_cons_zero, List.getElem?_cons_succ, storeL, spliceL, List.take_zero, List.take_succ_cons, List.drop_zero, List.drop_succ_cons, List.drop_nil, List.take_nil, Nat.le_refl, Nat.reduceMul, List.set_cons_zero, List.set_cons_succ, LV.scalar, List.all_cons, List.all_nil, Nat.lt_add_one, Nat.zero_lt_one, Nat.reduceLT, Nat.lt_irrefl, fillL, List.length_append, foldIntL, kind_beq, pures_int, solids_int, plains_int, unders_int, scalars_int, show ((i : Int) < (s.length : Int)) by omega, hh, hlen, hn, hme, hs, wrap_succ (show i + 1 < 9223372036854775808 by omega)]
theorem guarded_r2 (T S H A B : LV) (G F : Bool) (m : LMem) (hg : ∀ m, clF LP n_law12_guards [H, A] m = some (.P, .bool G, m)) (ha : ∀ m, clF LP n_law12_apart [H, B] m = some (.P, .bool F, m)) :
    exF LP law12_PostGuarded.B.R2 [(2, T), (7, S), (8, H), (10, A), (11, B), (15, .int .i64 (if G then 0 else 14)), (16, .int .i64 (if F then 0 else 14))] m = some (.normal, [(2, T), (7, S), (10, A), (11, B), (15, .int .i64 (if G then 0 else 14)), (16, .int .i64 (if F then 0 else 14)), (96, .bool false)], m) := by
  cases G <;> cases F
  all_goals simp only [if_true, if_false, Bool.false_eq_true] at hg ha ⊢
  all_goals simp only [law12_PostGuarded.B.R2, beqT, beqF, exF_seq, exF_region, exF_block, exF_cond, exF_ret, exF_exit, exF_skip, runL, wantL, stepL, evL, evC, LEnv.at, putL, loadFine, loadL, cellsAt, Trk.putNew, Trk.up, Trk.touch, Trk.gives, Trk.calm, Trk.hit, opdsOf, Trk.fresh, LEnv.keep, LEnv.ofFrom, List.map_cons, List.map_nil, nbeq, nble, nblt, ofAV, ofAVs, lenL, bin_add, bin_sub, bin_mul, bin_eql, bin_neq, bin_lss, bin_leq, bin_gtr, bin_geq, natL_nat, natL_zero, natL_one, natL_two, Nat.zero_mul, List.any_cons, List.any_nil, Bool.or_false, Bool.false_or, Bool.true_or, Bool.or_true, Bool.and_true, Bool.true_and, Bool.and_false, Bool.false_and, Bool.not_true, Bool.not_false, Nat.reduceBEq, Nat.reduceEqDiff, decide_true, decide_false, cond_true, cond_false, List.filter_nil, List.filter_cons, Nat.reduceAdd, Nat.reduceLeDiff, reduceCtorEq, List.length_nil, List.length_cons, Nat.mul_one, if_true, if_false, Bool.false_eq_true, eq_self, and_true, true_and, retL, resultsL, resAllL, resOfL, List.append_nil, List.nil_append, List.cons_append, true_or, or_true, false_or, or_false, false_and, and_false, not_true_eq_false, not_false_eq_true, ne_eq, unL, trim_nil, views_pures, LV.pures, LV.pure, freeze, Nat.reduceDiv, Int.reduceEq, Int.reduceLT, Int.reduceLE, Int.natCast_zero, LV.cells, allocL, List.getElem?_cons_zero, List.getElem?_cons_succ, storeL, spliceL, List.take_zero, List.take_succ_cons, List.drop_zero, List.drop_succ_cons, List.drop_nil, List.take_nil, Nat.le_refl, Nat.reduceMul, List.set_cons_zero, List.set_cons_succ, LV.scalar, List.all_cons, List.all_nil, Nat.lt_add_one, Nat.zero_lt_one, Nat.reduceLT, Nat.lt_irrefl, fillL, List.length_append, foldIntL, kind_beq, pures_int, solids_int, plains_int, unders_int, scalars_int, Bool.true_xor, Bool.false_xor, hg, ha]
theorem guarded_r3 (T S A B : LV) (G F : Bool) (na nb : Nat) (m : LMem) (h1 : ∀ m, clF LP n_math_bits_OnesCount [A] m = some (.P, .int .i64 (na : Int), m)) (h2 : ∀ m, clF LP n_math_bits_OnesCount [B] m = some (.P, .int .i64 (nb : Int), m)) (hw : G = true → F = true → nb ≤ na) :
    exF LP law12_PostGuarded.B.R3 [(2, T), (7, S), (10, A), (11, B), (15, .int .i64 (if G then 0 else 14)), (16, .int .i64 (if F then 0 else 14)), (96, .bool false)] m = some (.normal, [(2, T), (7, S), (10, A), (15, .int .i64 (if G then 0 else 14)), (109, .bool false)], m) := by
  cases G <;> cases F
  · simp (maxSteps := 1000000) only [law12_PostGuarded.B.R3, beqT, beqF, exF_seq, exF_region, exF_block, exF_cond, exF_ret, exF_exit, exF_skip, runL, wantL, stepL, evL, evC, LEnv.at, putL, loadFine, loadL, cellsAt, Trk.putNew, Trk.up, Trk.touch, Trk.gives, Trk.calm, Trk.hit, opdsOf, Trk.fresh, LEnv.keep, LEnv.ofFrom, List.map_cons, List.map_nil, nbeq, nble, nblt, ofAV, ofAVs, lenL, bin_add, bin_sub, bin_mul, bin_eql, bin_neq, bin_lss, bin_leq, bin_gtr, bin_geq, natL_nat, natL_zero, natL_one, natL_two, Nat.zero_mul, List.any_cons, List.any_nil, Bool.or_false, Bool.false_or, Bool.true_or, Bool.or_true, Bool.and_true, Bool.true_and, Bool.and_false, Bool.false_and, Bool.not_true, Bool.not_false, Nat.reduceBEq, Nat.reduceEqDiff, decide_true, decide_false, cond_true, cond_false, List.filter_nil, List.filter_cons, Nat.reduceAdd, Nat.reduceLeDiff, reduceCtorEq, List.length_nil, List.length_cons, Nat.mul_one, if_true, if_false, Bool.false_eq_true, eq_self, and_true, true_and, retL, resultsL, resAllL, resOfL, List.append_nil, List.nil_append, List.cons_append, true_or, or_true, false_or, or_false, false_and, and_false, not_true_eq_false, not_false_eq_true, ne_eq, unL, trim_nil, views_pures, LV.pures, LV.pure, freeze, Nat.reduceDiv, Int.reduceEq, Int.reduceLT, Int.reduceLE, Int.natCast_zero, LV.cells, allocL, List.getElem?_cons_zero, List.getElem?_cons_succ, storeL, spliceL, List.take_zero, List.take_succ_cons, List.drop_zero, List.drop_succ_cons, List.drop_nil, List.take_nil, Nat.le_refl, Nat.reduceMul, List.set_cons_zero, List.set_cons_succ, LV.scalar, List.all_cons, List.all_nil, Nat.lt_add_one, Nat.zero_lt_one, Nat.reduceLT, Nat.lt_irrefl, fillL, List.length_append, foldIntL, kind_beq, pures_int, solids_int, plains_int, unders_int, scalars_int, h1, h2]
  · simp (maxSteps := 1000000) only [law12_PostGuarded.B.R3, beqT, beqF, exF_seq, exF_region, exF_block, exF_cond, exF_ret, exF_exit, exF_skip, runL, wantL, stepL, evL, evC, LEnv.at, putL, loadFine, loadL, cellsAt, Trk.putNew, Trk.up, Trk.touch, Trk.gives, Trk.calm, Trk.hit, opdsOf, Trk.fresh, LEnv.keep, LEnv.ofFrom, List.map_cons, List.map_nil, nbeq, nble, nblt, ofAV, ofAVs, lenL, bin_add, bin_sub, bin_mul, bin_eql, bin_neq, bin_lss, bin_leq, bin_gtr, bin_geq, natL_nat, natL_zero, natL_one, natL_two, Nat.zero_mul, List.any_cons, List.any_nil, Bool.or_false, Bool.false_or, Bool.true_or, Bool.or_true, Bool.and_true, Bool.true_and, Bool.and_false, Bool.false_and, Bool.not_true, Bool.not_false, Nat.reduceBEq, Nat.reduceEqDiff, decide_true, decide_false, cond_true, cond_false, List.filter_nil, List.filter_cons, Nat.reduceAdd, Nat.reduceLeDiff, reduceCtorEq, List.length_nil, List.length_cons, Nat.mul_one, if_true, if_false, Bool.false_eq_true, eq_self, and_true, true_and, retL, resultsL, resAllL, resOfL, List.append_nil, List.nil_append, List.cons_append, true_or, or_true, false_or, or_false, false_and, and_false, not_true_eq_false, not_false_eq_true, ne_eq, unL, trim_nil, views_pures, LV.pures, LV.pure, freeze, Nat.reduceDiv, Int.reduceEq, Int.reduceLT, Int.reduceLE, Int.natCast_zero, LV.cells, allocL, List.getElem?_cons_zero, List.getElem?_cons_succ, storeL, spliceL, List.take_zero, List.take_succ_cons, List.drop_zero, List.drop_succ_cons, List.drop_nil, List.take_nil, Nat.le_refl, Nat.reduceMul, List.set_cons_zero, List.set_cons_succ, LV.scalar, List.all_cons, List.all_nil, Nat.lt_add_one, Nat.zero_lt_one, Nat.reduceLT, Nat.lt_irrefl, fillL, List.length_append, foldIntL, kind_beq, pures_int, solids_int, plains_int, unders_int, scalars_int, h1, h2]
  · simp (maxSteps := 1000000) only [law12_PostGuarded.B.R3, beqT, beqF, exF_seq, exF_region, exF_block, exF_cond, exF_ret, exF_exit, exF_skip, runL, wantL, stepL, evL, evC, LEnv.at, putL, loadFine, loadL, cellsAt, Trk.putNew, Trk.up, Trk.touch, Trk.gives, Trk.calm, Trk.hit, opdsOf, Trk.fresh, LEnv.keep, LEnv.ofFrom, List.map_cons, List.map_nil, nbeq, nble, nblt, ofAV, ofAVs, lenL, bin_add, bin_sub, bin_mul, bin_eql, bin_neq, bin_lss, bin_leq, bin_gtr, bin_geq, natL_nat, natL_zero, natL_one, natL_two, Nat.zero_mul, List.any_cons, List.any_nil, Bool.or_false, Bool.false_or, Bool.true_or, Bool.or_true, Bool.and_true, Bool.true_and, Bool.and_false, Bool.false_and, Bool.not_true, Bool.not_false, Nat.reduceBEq, Nat.reduceEqDiff, decide_true, decide_false, cond_true, cond_false, List.filter_nil, List.filter_cons, Nat.reduceAdd, Nat.reduceLeDiff, reduceCtorEq, List.length_nil, List.length_cons, Nat.mul_one, if_true, if_false, Bool.false_eq_true, eq_self, and_true, true_and, retL, resultsL, resAllL, resOfL, List.append_nil, List.nil_append, List.cons_append, true_or, or_true, false_or, or_false, false_and, and_false, not_true_eq_false, not_false_eq_true, ne_eq, unL, trim_nil, views_pures, LV.pures, LV.pure, freeze, Nat.reduceDiv, Int.reduceEq, Int.reduceLT, Int.reduceLE, Int.natCast_zero, LV.cells, allocL, List.getElem?_cons_zero, List.getElem?_cons_succ, storeL, spliceL, List.take_zero, List.take_succ_cons, List.drop_zero, List.drop_succ_cons, List.drop_nil, List.take_nil, Nat.le_refl, Nat.reduceMul, List.set_cons_zero, List.set_cons_succ, LV.scalar, List.all_cons, List.all_nil, Nat.lt_add_one, Nat.zero_lt_one, Nat.reduceLT, Nat.lt_irrefl, fillL, List.length_append, foldIntL, kind_beq, pures_int, solids_int, plains_int, unders_int, scalars_int, h1, h2]
  · have := hw rfl rfl
    simp (maxSteps := 1000000) only [law12_PostGuarded.B.R3, beqT, beqF, exF_seq, exF_region, exF_block, exF_cond, exF_ret, exF_exit, exF_skip, runL, wantL, stepL, evL, evC, LEnv.at, putL, loadFine, loadL, cellsAt, Trk.putNew, Trk.up, Trk.touch, Trk.gives, Trk.calm, Trk.hit, opdsOf, Trk.fresh, LEnv.keep, LEnv.ofFrom, List.map_cons, List.map_nil, nbeq, nble, nblt, ofAV, ofAVs, lenL, bin_add, bin_sub, bin_mul, bin_eql, bin_neq, bin_lss, bin_leq, bin_gtr, bin_geq, natL_nat, natL_zero, natL_one, natL_two, Nat.zero_mul, List.any_cons, List.any_nil, Bool.or_false, Bool.false_or, Bool.true_or, Bool.or_true, Bool.and_true, Bool.true_and, Bool.and_false, Bool.false_and, Bool.not_true, Bool.not_false, Nat.reduceBEq, Nat.reduceEqDiff, decide_true, decide_false, cond_true, cond_false, List.filter_nil, List.filter_cons, Nat.reduceAdd, Nat.reduceLeDiff, reduceCtorEq, List.length_nil, List.length_cons, Nat.mul_one, if_true, if_false, Bool.false_eq_true, eq_self, and_true, true_and, retL, resultsL, resAllL, resOfL, List.append_nil, List.nil_append, List.cons_append, true_or, or_true, false_or, or_false, false_and, and_false, not_true_eq_false, not_false_eq_true, ne_eq, unL, trim_nil, views_pures, LV.pures, LV.pure, freeze, Nat.reduceDiv, Int.reduceEq, Int.reduceLT, Int.reduceLE, Int.natCast_zero, LV.cells, allocL, List.getElem?_cons_zero, List.getElem?_cons_succ, storeL, spliceL, List.take_zero, List.take_succ_cons, List.drop_zero, List.drop_succ_cons, List.drop_nil, List.take_nil, Nat.le_refl, Nat.reduceMul, List.set_cons_zero, List.set_cons_succ, LV.scalar, List.all_cons, List.all_nil, Nat.lt_add_one, Nat.zero_lt_one, Nat.reduceLT, Nat.lt_irrefl, fillL, List.length_append, foldIntL, kind_beq, pures_int, solids_int, plains_int, unders_int, scalars_int, h1, h2, show ¬ ((na : Int) < (nb : Int)) by omega]
theorem guarded_r5 (b : Bool) {s : List Int} (K : OkS s) {a c : Nat} (ha : a < 2 ^ s.length) (hc : c < 2 ^ s.length) (hac : grdB s (memL a) = true → grdB s (memL c) = true) (m : LMem) : ∃ m',
    exF LP law12_PostGuarded.B.R5 [(7, IL false b 1 s), (10, .int .u64 (a : Int)), (15, .int .i64 (if grdB s (memL a) then 0 else 14)), (17, .int .u64 (c : Int))] m = some (.normal, [(6, .bool true)], m') := by
  have hle := K.le
  have hp := pow_1024 hle
  have l0 : lenL (IL false b 1 s) = some s.length := rfl
  have hla := memL_len a
  have key : ∀ m, ∃ m1 m2 m3, clF LP n_law12_members [.int .u64 (a : Int)] m = some (.O, GV m.length (ci (memL a)), m1) ∧ appendL m1 1 8 (GV m.length (ci (memL a))) (.lst false true 1 1 [.int .i64 (s.length : Int)]) = some (GV m.length (ci (memL a) ++ [(s.length : Int)]), m2) ∧ clF LP n_post_Guards [IL false b 1 s, GV m.length (ci (memL a) ++ [(s.length : Int)])] m2 = some (.P, .int .i64 2, m3) := fun m => by
    obtain ⟨m3, h3⟩ := guards_end b K (memL_asc ha) m
    exact ⟨_, _, m3, memb_o (by omega) m, append_grow m (ci (memL a)) (s.length : Int) true (by simp; omega), h3⟩
  have hvx : ∀ (x : Int) m, views m [.int .i64 x] = some ([.int .i64 x], []) := fun x m => views_pures m _ (by simp [LV.pures, LV.pure])
  cases hg : grdB s (memL a)
  · obtain ⟨m1, m2, m3, k1, k2, k3⟩ := key m
    refine ⟨m3, ?_⟩
    generalize IL false b 1 s = S at *
    generalize GV m.length (ci (memL a)) = G1 at *
    generalize GV m.length (ci (memL a) ++ [(s.length : Int)]) = G2 at *
    simp (maxSteps := 1000000) only [law12_PostGuarded.B.R5, beqT, beqF, exF_seq, exF_region, exF_block, exF_cond, exF_ret, exF_exit, exF_skip, runL, wantL, stepL, evL, evC, LEnv.at, putL, loadFine, loadL, cellsAt, Trk.putNew, Trk.up, Trk.touch, Trk.gives, Trk.calm, Trk.hit, opdsOf, Trk.fresh, LEnv.keep, LEnv.ofFrom, List.map_cons, List.map_nil, nbeq, nble, nblt, ofAV, ofAVs, bin_add, bin_sub, bin_mul, bin_eql, bin_neq, bin_lss, bin_leq, bin_gtr, bin_geq, natL_nat, natL_zero, natL_one, natL_two, Nat.zero_mul, List.any_cons, List.any_nil, Bool.or_false, Bool.false_or, Bool.true_or, Bool.or_true, Bool.and_true, Bool.true_and, Bool.and_false, Bool.false_and, Bool.not_true, Bool.not_false, Nat.reduceBEq, Nat.reduceEqDiff, decide_true, decide_false, cond_true, cond_false, List.filter_nil, List.filter_cons, Nat.reduceAdd, Nat.reduceLeDiff, reduceCtorEq, List.length_nil, List.length_cons, Nat.mul_one, if_true, if_false, Bool.false_eq_true, eq_self, and_true, true_and, retL, resultsL, resAllL, resOfL, List.append_nil, List.nil_append, List.cons_append, true_or, or_true, false_or, or_false, false_and, and_false, not_true_eq_false, not_false_eq_true, ne_eq, unL, trim_nil, views_pures, LV.pures, LV.pure, freeze, Nat.reduceDiv, Int.reduceEq, Int.reduceLT, Int.reduceLE, Int.natCast_zero, LV.cells, allocL, List.getElem?_cons_zero, List.getElem?_cons_succ, storeL, spliceL, List.take_zero, List.take_succ_cons, List.drop_zero, List.drop_succ_cons, List.drop_nil, List.take_nil, Nat.le_refl, Nat.reduceMul, List.set_cons_zero, List.set_cons_succ, LV.scalar, List.all_cons, List.all_nil, Nat.lt_add_one, Nat.zero_lt_one, Nat.reduceLT, Nat.lt_irrefl, fillL, List.length_append, foldIntL, kind_beq, pures_int, solids_int, plains_int, unders_int, scalars_int, l0, hvx, freeze_nil, k1, k2, k3, works_c]
  · obtain ⟨mb, h1⟩ := guards_o b K (memL_asc hc) m
    have h0 := memb_o (show c < 1024 by omega) m
    rw [hac hg] at h1
    simp only [if_true] at h1
    obtain ⟨m1, m2, m3, k1, k2, k3⟩ := key mb
    refine ⟨m3, ?_⟩
    generalize IL false b 1 s = S at *
    generalize GV m.length (ci (memL c)) = G0 at *
    generalize m ++ GM (ci (memL c)) = M0 at *
    generalize GV mb.length (ci (memL a)) = G1 at *
    generalize GV mb.length (ci (memL a) ++ [(s.length : Int)]) = G2 at *
    simp (maxSteps := 1000000) only [law12_PostGuarded.B.R5, beqT, beqF, exF_seq, exF_region, exF_block, exF_cond, exF_ret, exF_exit, exF_skip, runL, wantL, stepL, evL, evC, LEnv.at, putL, loadFine, loadL, cellsAt, Trk.putNew, Trk.up, Trk.touch, Trk.gives, Trk.calm, Trk.hit, opdsOf, Trk.fresh, LEnv.keep, LEnv.ofFrom, List.map_cons, List.map_nil, nbeq, nble, nblt, ofAV, ofAVs, bin_add, bin_sub, bin_mul, bin_eql, bin_neq, bin_lss, bin_leq, bin_gtr, bin_geq, natL_nat, natL_zero, natL_one, natL_two, Nat.zero_mul, List.any_cons, List.any_nil, Bool.or_false, Bool.false_or, Bool.true_or, Bool.or_true, Bool.and_true, Bool.true_and, Bool.and_false, Bool.false_and, Bool.not_true, Bool.not_false, Nat.reduceBEq, Nat.reduceEqDiff, decide_true, decide_false, cond_true, cond_false, List.filter_nil, List.filter_cons, Nat.reduceAdd, Nat.reduceLeDiff, reduceCtorEq, List.length_nil, List.length_cons, Nat.mul_one, if_true, if_false, Bool.false_eq_true, eq_self, and_true, true_and, retL, resultsL, resAllL, resOfL, List.append_nil, List.nil_append, List.cons_append, true_or, or_true, false_or, or_false, false_and, and_false, not_true_eq_false, not_false_eq_true, ne_eq, unL, trim_nil, views_pures, LV.pures, LV.pure, freeze, Nat.reduceDiv, Int.reduceEq, Int.reduceLT, Int.reduceLE, Int.natCast_zero, LV.cells, allocL, List.getElem?_cons_zero, List.getElem?_cons_succ, storeL, spliceL, List.take_zero, List.take_succ_cons, List.drop_zero, List.drop_succ_cons, List.drop_nil, List.take_nil, Nat.le_refl, Nat.reduceMul, List.set_cons_zero, List.set_cons_succ, LV.scalar, List.all_cons, List.all_nil, Nat.lt_add_one, Nat.zero_lt_one, Nat.reduceLT, Nat.lt_irrefl, fillL, List.length_append, foldIntL, kind_beq, pures_int, solids_int, plains_int, unders_int, scalars_int, l0, hvx, freeze_nil, h0, h1, k1, k2, k3, works_c]
theorem guarded_in (ns : List Int) (hl : ns.length = 11) (hb : ∀ n ∈ ns, 0 ≤ n ∧ n < 256) (one : Int) (h1 : 0 ≤ one ∧ one < 65536) (two : Int) (h2 : 0 ≤ two ∧ two < 65536) :
    clF LP n_law12_PostGuarded [.agg (ns.map (LV.int .u8)), .int .u16 one, .int .u16 two] [] = some (.P, .bool true, []) := by
  obtain ⟨l, rfl, hlb⟩ := bytes_nat ns hb
  obtain ⟨one, rfl⟩ := Int.eq_ofNat_of_zero_le h1.1
  obtain ⟨two, rfl⟩ := Int.eq_ofNat_of_zero_le h2.1
  have hone : one < 65536 := by omega
  have htwo : two < 65536 := by omega
  rw [ci_ln] at hl
  obtain ⟨p, bs, rfl⟩ : ∃ p bs, l = p :: bs := by
    cases l with
    | nil => simp at hl
    | cons p bs => exact ⟨p, bs, rfl⟩
  have hb10 : bs.length = 10 := by simpa using hl
  show clF LP n_law12_PostGuarded [.agg (bys (p :: bs)), .int .u16 (one : Int), .int .u16 (two : Int)] [] = some (.P, .bool true, [])
  obtain ⟨f1, f2, hm⟩ := made_c p (hlb p (by simp)) 10 (by omega) (by omega) bs hb10 (fun x hx => hlb x (by simp [hx]))
  have hk : p % 10 < 10 := Nat.mod_lt _ (by omega)
  obtain ⟨K, hsl⟩ := shoreN_ok (1 + p % 10) (by omega) (by omega) bs
  rw [hand_eq (1 + p % 10) (by omega) (by omega) bs] at hm
  have hm : ∀ m, clF LP n_law12_Coast_made [.agg (bys (p :: bs)), .int .i64 10] m = some (.P, .tup [IL false f1 1 (shoreN (1 + p % 10) bs), UD f2 (handsV (shoreN (1 + p % 10) bs))], m) := fun m => by
    have := hm m
    rw [show UD f2 (handsV (shoreN (1 + p % 10) bs)) = .lst false f2 1 (1 + p % 10) (nats (handsV (shoreN (1 + p % 10) bs))) by rw [UD, handsV_length, hsl]]
    exact this
  have hbl : (bys (p :: bs)).length = 11 := by simp [hb10]
  have hps : LV.pures (bys (p :: bs)) = true := pures_int _ _
  have htk : (bys (p :: bs)).take 11 = bys (p :: bs) := List.take_of_length_le (by omega)
  generalize bys (p :: bs) = w at *
  generalize shoreN (1 + p % 10) bs = s at *
  have hle := K.le
  have hpos := K.pos
  have hpure : LV.pures [LV.agg w, .int .u16 (one : Int), .int .u16 (two : Int)] = true := by simp only [LV.pures, LV.pure, hps, Bool.and_true]
  have hp0 : 0 < 2 ^ s.length := Nat.pow_pos (by omega)
  have hp1 := pow_1024 hle
  have hsh : binL .shl (.int .u64 1) (.int .i64 (s.length : Int)) = some (.int .u64 ((2 ^ s.length : Nat) : Int)) := bits_shl (by omega)
  have hpr := bits_pred (a := 2 ^ s.length) (by omega) hp0
  have hc1 : IntKind.u64.wrap (one : Int) = (one : Int) := IntWalk.u64_in _ (by omega)
  have hc2 : IntKind.u64.wrap (two : Int) = (two : Int) := IntWalk.u64_in _ (by omega)
  have hcn : IntKind.u64.wrap (s.length : Int) = (s.length : Int) := IntWalk.u64_in _ (by omega)
  have ha1 := bits_and (a := one) (b := 2 ^ s.length - 1) (by omega) (by omega)
  have ha2 := bits_and (a := two) (b := 2 ^ s.length - 1) (by omega) (by omega)
  have hA : one &&& (2 ^ s.length - 1) < 2 ^ s.length := Nat.lt_of_le_of_lt Nat.and_le_right (by omega)
  have hB : two &&& (2 ^ s.length - 1) < 2 ^ s.length := Nat.lt_of_le_of_lt Nat.and_le_right (by omega)
  generalize one &&& (2 ^ s.length - 1) = a at *
  generalize two &&& (2 ^ s.length - 1) = b at *
  have hr : two % s.length < s.length := Nat.mod_lt _ (by omega)
  have hrem : binL .rem (.int .u64 (two : Int)) (.int .u64 (s.length : Int)) = some (.int .u64 ((two % s.length : Nat) : Int)) := by
    rw [bin_rem _ _ _ (by omega)]; rfl
  generalize two % s.length = r at *
  have hshr := ushl r (by omega)
  have h2r : 2 ^ r < 2 ^ s.length := Nat.pow_lt_pow_right (by omega) hr
  have hor := bits_or (a := a) (b := 2 ^ r) (by omega) (by omega)
  have hC : a ||| 2 ^ r < 2 ^ s.length := Nat.or_lt_two_pow hA h2r
  have hac : grdB s (memL a) = true → grdB s (memL (a ||| 2 ^ r)) = true := fun h => by
    refine grd_more (fun x hx => ?_) h
    rw [bit_mem (by omega)] at hx ⊢
    rw [Nat.testBit_or, hx]; rfl
  generalize a ||| 2 ^ r = c at *
  have hg := fun m => lguards_c f2 K hA m
  have hap := fun m => lapart_c f2 K hB m
  obtain ⟨m1, hlo⟩ := guarded_loop f1 f2 K (.int .u16 (two : Int)) (.int .u64 (a : Int)) (.int .u64 (b : Int)) s.length 0 [⟨w, true⟩] (by omega)
  obtain ⟨m2, g1⟩ := guards_o f1 K (memL_asc hA) m1
  have g0 := memb_o (show a < 1024 by omega) m1
  obtain ⟨m3, g3⟩ := proves_o f1 K (memL_asc hB) m2
  have g2 := memb_o (show b < 1024 by omega) m2
  have r2 := guarded_r2 (.int .u16 (two : Int)) (IL false f1 1 s) (UD f2 (handsV s)) (.int .u64 (a : Int)) (.int .u64 (b : Int)) _ _ m3 hg hap
  have r3 := guarded_r3 (.int .u16 (two : Int)) (IL false f1 1 s) (.int .u64 (a : Int)) (.int .u64 (b : Int)) (grdB s (memL a)) (fits (hd s) 0 (memL b)) _ _ m3 (fun m => pc_c (by omega) m) (fun m => pc_c (by omega) m) (fun e1 e2 => weak_len K (memL_asc hB) (memL_asc hA) e2 e1)
  obtain ⟨m4, r5⟩ := guarded_r5 f1 K hA hC hac m3
  simp only [Int.natCast_zero] at hlo
  have l0 : lenL (IL false f1 1 s) = some s.length := rfl
  refine call_P lp_law12_PostGuarded rfl hpure (m1 := m4) ?_ rfl []
  generalize (2 ^ s.length - 1) = P at *
  generalize 2 ^ s.length = N at *
  generalize 2 ^ r = R at *
  generalize GV m1.length (ci (memL a)) = G1 at *
  generalize m1 ++ GM (ci (memL a)) = M1 at *
  generalize GV m2.length (ci (memL b)) = G2 at *
  generalize m2 ++ GM (ci (memL b)) = M2 at *
  generalize UD f2 (handsV s) = H at *
  generalize hS : IL false f1 1 s = S at *
  simp (maxSteps := 1000000) only [law12_PostGuarded, law12_PostGuarded.B, law12_PostGuarded.B.R0, law12_PostGuarded.B.R1, law12_PostGuarded.B.R4, beqT, beqF, exF_seq, exF_region, exF_block, exF_cond, exF_ret, exF_exit, exF_skip, runL, wantL, stepL, evL, evC, LEnv.at, putL, loadFine, loadL, cellsAt, Trk.putNew, Trk.up, Trk.touch, Trk.gives, Trk.calm, Trk.hit, opdsOf, Trk.fresh, LEnv.keep, LEnv.ofFrom, List.map_cons, List.map_nil, nbeq, nble, nblt, ofAV, ofAVs, bin_add, bin_sub, bin_mul, bin_eql, bin_neq, bin_lss, bin_leq, bin_gtr, bin_geq, natL_nat, natL_zero, natL_one, natL_two, Nat.zero_mul, List.any_cons, List.any_nil, Bool.or_false, Bool.false_or, Bool.true_or, Bool.or_true, Bool.and_true, Bool.true_and, Bool.and_false, Bool.false_and, Bool.not_true, Bool.not_false, Nat.reduceBEq, Nat.reduceEqDiff, decide_true, decide_false, cond_true, cond_false, List.filter_nil, List.filter_cons, Nat.reduceAdd, Nat.reduceLeDiff, reduceCtorEq, List.length_nil, List.length_cons, Nat.mul_one, if_true, if_false, Bool.false_eq_true, eq_self, and_true, true_and, retL, resultsL, resAllL, resOfL, List.append_nil, List.nil_append, List.cons_append, true_or, or_true, false_or, or_false, false_and, and_false, not_true_eq_false, not_false_eq_true, ne_eq, unL, trim_nil, views_pures, LV.pures, LV.pure, freeze, Nat.reduceDiv, Int.reduceEq, Int.reduceLT, Int.reduceLE, Int.natCast_zero, LV.cells, allocL, List.getElem?_cons_zero, List.getElem?_cons_succ, storeL, spliceL, List.take_zero, List.take_succ_cons, List.drop_zero, List.drop_succ_cons, List.drop_nil, List.take_nil, Nat.le_refl, Nat.reduceMul, List.set_cons_zero, List.set_cons_succ, LV.scalar, List.all_cons, List.all_nil, Nat.lt_add_one, Nat.zero_lt_one, Nat.reduceLT, Nat.lt_irrefl, fillL, List.length_append, foldIntL, kind_beq, pures_int, solids_int, plains_int, unders_int, scalars_int, hbl, htk, hm, l0, hsh, hpr, hc1, hc2, hcn, ha1, ha2, hlo, g0, g1, g2, g3, r2, r3, hrem, hshr, hor, r5]
end Go.Am.Post

