import Derived.Test.YtheppipmnfjdcaaRingWorks
import Derived.Test.YtheppipmnfjdcaaRingC20
import Derived.Carry
/-
  What functions of chapter 04 compute, 12: the law RingOrders.
-/
set_option linter.unusedVariables false
set_option linter.unusedSimpArgs false
set_option maxRecDepth 10000
namespace Go.Am.Ring
open Go.Am.G

theorem pcI_flat : ∀ (l : List (Int × Int)), pcI l = (flatP l).map (LV.int .i64)
  | [] => rfl
  | a :: r => by
    have e1 : pcI (a :: r) = .int .i64 a.1 :: .int .i64 a.2 :: pcI r := rfl
    have e2 : flatP (a :: r) = a.1 :: a.2 :: flatP r := rfl
    rw [e1, e2, pcI_flat r]; rfl
end Go.Am.Ring

/-
  What functions of chapter 04 compute, 21: the law RingStrikes.
-/
set_option linter.unusedVariables false
set_option linter.unusedSimpArgs false
set_option maxRecDepth 10000
namespace Go.Am.Ring
open Go.Am.G

theorem flat_small (n : Nat) (f : Nat → List (Nat × Nat)) (hf : ∀ a, (f a).length ≤ n) : ((List.range n).flatMap f).length ≤ n * n := by
  have : ∀ l : List Nat, (l.flatMap f).length ≤ l.length * n := by
    intro l
    induction l with
    | nil => simp
    | cons a l ih =>
      have := hf a
      rw [List.flatMap_cons, List.length_append, List.length_cons, Nat.add_mul, Nat.one_mul]
      omega
  have h := this (List.range n)
  rw [List.length_range] at h
  exact h
theorem sure_both (N : Int) (l : List (Int × Int)) (hl : l.length < 1000000) (nl : Bool) : ∃ a b z a' b' z' S e, S.length < 1000000 ∧ (∀ m, clF LP n_ring_Sure [.int .i64 N, FL nl false 2 l] m = some (.P, .tup [FL a b z S, .int .i64 e], m)) ∧ (∀ m, clF LP n_ref04_Sure [.int .i64 N, FL nl false 2 l] m = some (.P, .tup [FL a' b' z' S, .int .i64 e], m)) := by
  by_cases h : chkF N l = 0
  · obtain ⟨n, P, rfl, rfl, G⟩ := good_of h
    obtain ⟨a, b, z, h1⟩ := sure_c n P G nl false 2
    obtain ⟨a', b', z', h2⟩ := sureR_c n P G nl false 2
    rw [← sureS_eq G] at h2
    refine ⟨a, b, z, a', b', z', (sureS n P).map castP, 0, ?_, h1, h2⟩
    have := flat_small n (fun a => sureL n P a (List.range n)) (fun a => by have := sureL_len n P a (List.range n); simpa using this)
    have h6 := G.le6
    have h36 : n * n ≤ 6 * 6 := Nat.mul_le_mul h6 h6
    rw [List.length_map]
    unfold sureS
    omega
  · exact ⟨true, true, 0, true, true, 0, [], _, by simp, fun m => sure_e N l hl h nl false 2 m, fun m => sureR_e N l hl h nl false 2 m⟩
theorem strG_len (n : Nat) (P : List (Nat × Nat)) : ∀ (d i : Nat) (b : List Nat), (strG n P d i b).length ≤ b.length + d
  | 0, i, b => by simp [strG]
  | d + 1, i, b => by
    rw [strG]
    split
    · have := strG_len n P d (i + 1) (b ++ [i])
      simp at this; omega
    · have := strG_len n P d (i + 1) b
      omega
theorem strike_both (N : Int) (l : List (Int × Int)) (hl : l.length < 1000000) (nl : Bool) (hnl : nl = true → l = []) : ∃ a b z x e, x.length < 1000000 ∧ (∀ m, clF LP n_ring_Strike [.int .i64 N, FL nl false 2 l] m = some (.P, .tup [IL a b z x, .int .i64 e], m)) ∧ (∀ m, clF LP n_ref04_Strike [.int .i64 N, FL nl false 2 l] m = some (.P, .tup [RL x, .int .i64 e], m)) := by
  by_cases h : chkF N l = 0
  · obtain ⟨n, P, rfl, rfl, G⟩ := good_of h
    obtain ⟨a, b, z, h1⟩ := strike_c n P G nl (fun c => by simpa using hnl c)
    obtain ⟨s1, s2⟩ := strike_some G
    have hFW : FW n P ≤ 12 := by
      obtain ⟨o, ho, he⟩ := FW_at G
      have : contr P o ≤ P.length := List.countP_le_length
      have := G.le12
      omega
    have hlen : (strL n P).length ≤ P.length := by simpa using strG_len n P P.length 0 []
    have h12 := G.le12
    refine ⟨a, b, z, ci (strL n P), 0, by rw [ci_len]; omega, fun m => ?_, fun m => StrikeR_c G nl false 2 (strL n P) (FW n P) hFW s1 s2 m⟩
    rw [h1 m]
    simp only [IL, ci_len]
  · exact ⟨true, true, 0, [], _, by simp, fun m => strike_e N l hl h nl false 2 m, fun m => StrikeR_e N l hl h nl false 2 m⟩
theorem turnV_len (N : Int) (l : List (Int × Int)) (w : List Int) (h : l.length < 1000) : (turnV N l w).1.length < 1000000 := by
  unfold turnV
  split
  · split
    · simp only [twF_len]; omega
    · simp
  · simp
theorem strikes_law (N : Int) (nl nl' : Bool) (l : List (Int × Int)) (hnl : nl = true → l = []) (w : List Int) : clF LP n_law04_RingStrikes [.int .i64 N, FL nl false 2 l, IL nl' false 1 w] [] = some (.P, .bool true, []) := by
  refine call_P lp_law04_RingStrikes rfl (by simp [LV.pures, LV.pure, pcI_pures]) (m1 := []) ?_ rfl []
  by_cases h1 : 40 < l.length
  · have h1' : (40 : Int) < (l.length : Int) := by omega
    simp only [law04_RingStrikes, law04_RingStrikes.B, law04_RingStrikes.B.R0]
    repeat (rw [exF_seq]; try simp only [beqT, beqF, exF_region, exF_block, exF_cond, exF_ret, exF_exit, exF_skip, runL, wantL, stepL, evL, evC, LEnv.at, putL, loadFine, loadL, cellsAt, Trk.putNew, Trk.up, Trk.touch, Trk.gives, Trk.calm, Trk.hit, opdsOf, Trk.fresh, LEnv.keep, LEnv.ofFrom, List.map_cons, List.map_nil, nbeq, nble, nblt, ofAV, ofAVs, lenL, bin_add, bin_sub, bin_mul, bin_eql, bin_neq, bin_lss, bin_leq, bin_gtr, bin_geq, natL_nat, natL_zero, natL_one, natL_two, Nat.zero_mul, List.any_cons, List.any_nil, Bool.or_false, Bool.false_or, Bool.true_or, Bool.or_true, Bool.and_true, Bool.true_and, Bool.and_false, Bool.false_and, Bool.not_true, Bool.not_false, Nat.reduceBEq, Nat.reduceEqDiff, decide_true, decide_false, cond_true, cond_false, List.filter_nil, List.filter_cons, Nat.reduceAdd, Nat.reduceLeDiff, reduceCtorEq, List.length_nil, List.length_cons, Nat.mul_one, if_true, if_false, Bool.false_eq_true, eq_self, and_true, true_and, retL, resultsL, resAllL, resOfL, List.append_nil, List.nil_append, List.cons_append, true_or, or_true, false_or, or_false, false_and, and_false, not_true_eq_false, not_false_eq_true, ne_eq, unL, trim_nil, views_pures, LV.pures, LV.pure, freeze, Nat.reduceDiv, Int.reduceEq, Int.reduceLT, Int.reduceLE, Int.natCast_zero, LV.cells, allocL, List.getElem?_cons_zero, List.getElem?_cons_succ, storeL, spliceL, List.take_zero, List.take_succ_cons, List.drop_zero, List.drop_succ_cons, List.drop_nil, List.take_nil, Nat.le_refl, Nat.reduceMul, List.set_cons_zero, List.set_cons_succ, LV.scalar, List.all_cons, List.all_nil, Nat.lt_add_one, Nat.zero_lt_one, Nat.reduceLT, Nat.lt_irrefl, fillL, List.length_append, foldIntL, kind_beq, pures_int, solids_int, plains_int, unders_int, scalars_int, h1', works_c])
  · have h1' : ¬ (40 : Int) < (l.length : Int) := by omega
    by_cases h2 : 40 < w.length
    · have h2' : (40 : Int) < (w.length : Int) := by omega
      simp only [law04_RingStrikes, law04_RingStrikes.B, law04_RingStrikes.B.R0]
      repeat (rw [exF_seq]; try simp only [beqT, beqF, exF_region, exF_block, exF_cond, exF_ret, exF_exit, exF_skip, runL, wantL, stepL, evL, evC, LEnv.at, putL, loadFine, loadL, cellsAt, Trk.putNew, Trk.up, Trk.touch, Trk.gives, Trk.calm, Trk.hit, opdsOf, Trk.fresh, LEnv.keep, LEnv.ofFrom, List.map_cons, List.map_nil, nbeq, nble, nblt, ofAV, ofAVs, lenL, bin_add, bin_sub, bin_mul, bin_eql, bin_neq, bin_lss, bin_leq, bin_gtr, bin_geq, natL_nat, natL_zero, natL_one, natL_two, Nat.zero_mul, List.any_cons, List.any_nil, Bool.or_false, Bool.false_or, Bool.true_or, Bool.or_true, Bool.and_true, Bool.true_and, Bool.and_false, Bool.false_and, Bool.not_true, Bool.not_false, Nat.reduceBEq, Nat.reduceEqDiff, decide_true, decide_false, cond_true, cond_false, List.filter_nil, List.filter_cons, Nat.reduceAdd, Nat.reduceLeDiff, reduceCtorEq, List.length_nil, List.length_cons, Nat.mul_one, if_true, if_false, Bool.false_eq_true, eq_self, and_true, true_and, retL, resultsL, resAllL, resOfL, List.append_nil, List.nil_append, List.cons_append, true_or, or_true, false_or, or_false, false_and, and_false, not_true_eq_false, not_false_eq_true, ne_eq, unL, trim_nil, views_pures, LV.pures, LV.pure, freeze, Nat.reduceDiv, Int.reduceEq, Int.reduceLT, Int.reduceLE, Int.natCast_zero, LV.cells, allocL, List.getElem?_cons_zero, List.getElem?_cons_succ, storeL, spliceL, List.take_zero, List.take_succ_cons, List.drop_zero, List.drop_succ_cons, List.drop_nil, List.take_nil, Nat.le_refl, Nat.reduceMul, List.set_cons_zero, List.set_cons_succ, LV.scalar, List.all_cons, List.all_nil, Nat.lt_add_one, Nat.zero_lt_one, Nat.reduceLT, Nat.lt_irrefl, fillL, List.length_append, foldIntL, kind_beq, pures_int, solids_int, plains_int, unders_int, scalars_int, h1', h2', works_c])
    · have h2' : ¬ (40 : Int) < (w.length : Int) := by omega
      obtain ⟨a, b, z, a', b', z', S, e, hS, s1, s2⟩ := sure_both N l (by omega) nl
      obtain ⟨c, d, y, x, g, hx, k1, k2⟩ := strike_both N l (by omega) nl hnl
      obtain ⟨p, q, r, t1⟩ := turn_c nl nl' false 1 N l w (by omega) hnl (by omega)
      obtain ⟨p', q', r', t2⟩ := turnR_c nl false nl' false 2 1 N l w (by omega) (by omega)
      have hp1 : ∀ m, clF LP n_law04_pairs [FL a b z S, FL a' b' z' S] m = some (.P, .bool true, m) := fun m => by rw [pairs_c a b a' b' z z' S S hS hS m]; simp
      have hp2 : ∀ m, clF LP n_law04_pairs [FL p q r (turnV N l w).1, FL p' q' r' (turnV N l w).1] m = some (.P, .bool true, m) := fun m => by rw [pairs_c p q p' q' r r' _ _ (turnV_len N l w (by omega)) (turnV_len N l w (by omega)) m]; simp
      have hsm : ∀ m, clF LP n_law04_same [IL c d y x, RL x] m = some (.P, .bool true, m) := fun m => by rw [same_c c d _ _ y _ x x hx hx m]; simp
      generalize (turnV N l w).1 = T1 at *
      generalize (turnV N l w).2 = T2 at *
      generalize FL a b z S = Z1 at *
      generalize FL a' b' z' S = Z2 at *
      generalize FL p q r T1 = Z3 at *
      generalize FL p' q' r' T1 = Z4 at *
      generalize IL c d y x = Z5 at *
      generalize RL x = Z6 at *
      simp only [law04_RingStrikes, law04_RingStrikes.B, law04_RingStrikes.B.R0, law04_RingStrikes.B.R1, law04_RingStrikes.B.R2, law04_RingStrikes.B.R3, law04_RingStrikes.B.R4, law04_RingStrikes.B.R5, law04_RingStrikes.B.R6, law04_RingStrikes.B.R7]
      repeat (rw [exF_seq]; try simp only [beqT, beqF, exF_region, exF_block, exF_cond, exF_ret, exF_exit, exF_skip, runL, wantL, stepL, evL, evC, LEnv.at, putL, loadFine, loadL, cellsAt, Trk.putNew, Trk.up, Trk.touch, Trk.gives, Trk.calm, Trk.hit, opdsOf, Trk.fresh, LEnv.keep, LEnv.ofFrom, List.map_cons, List.map_nil, nbeq, nble, nblt, ofAV, ofAVs, lenL, bin_add, bin_sub, bin_mul, bin_eql, bin_neq, bin_lss, bin_leq, bin_gtr, bin_geq, natL_nat, natL_zero, natL_one, natL_two, Nat.zero_mul, List.any_cons, List.any_nil, Bool.or_false, Bool.false_or, Bool.true_or, Bool.or_true, Bool.and_true, Bool.true_and, Bool.and_false, Bool.false_and, Bool.not_true, Bool.not_false, Nat.reduceBEq, Nat.reduceEqDiff, decide_true, decide_false, cond_true, cond_false, List.filter_nil, List.filter_cons, Nat.reduceAdd, Nat.reduceLeDiff, reduceCtorEq, List.length_nil, List.length_cons, Nat.mul_one, if_true, if_false, Bool.false_eq_true, eq_self, and_true, true_and, retL, resultsL, resAllL, resOfL, List.append_nil, List.nil_append, List.cons_append, true_or, or_true, false_or, or_false, false_and, and_false, not_true_eq_false, not_false_eq_true, ne_eq, unL, trim_nil, views_pures, LV.pures, LV.pure, freeze, Nat.reduceDiv, Int.reduceEq, Int.reduceLT, Int.reduceLE, Int.natCast_zero, LV.cells, allocL, List.getElem?_cons_zero, List.getElem?_cons_succ, storeL, spliceL, List.take_zero, List.take_succ_cons, List.drop_zero, List.drop_succ_cons, List.drop_nil, List.take_nil, Nat.le_refl, Nat.reduceMul, List.set_cons_zero, List.set_cons_succ, LV.scalar, List.all_cons, List.all_nil, Nat.lt_add_one, Nat.zero_lt_one, Nat.reduceLT, Nat.lt_irrefl, fillL, List.length_append, foldIntL, kind_beq, pures_int, solids_int, plains_int, unders_int, scalars_int, h1', h2', s1, s2, k1, k2, t1, t2, hp1, hp2, hsm, works_c])
theorem strikes_in (N : Int) (nl : Bool) (l : List (Int × Int)) (hnl : nl = true → l = []) (nl' : Bool) (w : List Int) (_ : nl' = true → w = []) :
    clF LP n_law04_RingStrikes [.int .i64 N, .lst nl false 2 l.length ((flatP l).map (LV.int .i64)), IL nl' false 1 w] [] = some (.P, .bool true, []) := by
  rw [← pcI_flat]
  exact strikes_law N nl nl' l hnl w
end Go.Am.Ring

/-
  THE JOIN, 3: arguments read behind the call as before it.
-/
set_option linter.unusedVariables false
namespace Go.Am
variable [Glo]
open Go.RowKit
omit [Glo] in
theorem trodAll_below {H : Type} {enc : TypeId × Value → H} {P : Program} {W W' : World} (hl : laidOutB P = true) (hb : Below W.heap.size W W') : ∀ {ts : List TypeId} {vs : List Value} {ds : List (DataW H)} {ps : List MemPlace}, (ts.all fun t => P.readableRec t && decide (t < P.types.size)) = true →
    DataW.TrodAll enc P W 0 (fun _ => true) true ts vs ds ps → (∀ x ∈ ps, x.block < W.heap.size) → DataW.TrodAll enc P W' 0 (fun b => decide (b < W.heap.size)) true ts vs ds ps
  | [], [], [], _, _, h, _ => h
  | t :: ts, v :: vs, d :: ds, ps, hr, ⟨p, q, h1, h2, e⟩, hlt => by
    simp only [List.all_cons, Bool.and_eq_true, decide_eq_true_eq] at hr
    subst e
    exact ⟨p, q, Below.trod hl hr.1.1 hr.1.2 h1 hb (fun x hx => hlt x (List.mem_append_left _ hx)), trodAll_below hl hb hr.2 h2 (fun x hx => hlt x (List.mem_append_right _ hx)), rfl⟩
end Go.Am

/-
  THE JOIN, 4: structs of bytes that came in.
-/
set_option linter.unusedVariables false
namespace Go.Am
variable [Glo]
open Go.RowKit

section
variable {H : Type} {enc : TypeId × Value → H} {P : Program} {w : World} {base : Nat} {sp : Nat → Bool} {held : Bool}
end
end Go.Am


