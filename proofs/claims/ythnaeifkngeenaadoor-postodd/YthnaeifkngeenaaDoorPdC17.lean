import Derived.Test.YthnaeifkngeenaaDoorPdC16
import Derived.Test.YthnaeifkngeenaaDoorPdC14
/-
  What functions of chapter 12 compute, 17: places that are always, or never, in the smallest lists; the law of counts.
-/
set_option linter.unusedVariables false
set_option linter.unusedSimpArgs false
set_option maxRecDepth 10000
namespace Go.Am.Post
open Go.Am.G

theorem view_qm (D : LBlk) (l : List Nat) (e : Int) : view 40 (QM D l) (.tup [GV 2 (ci l), .int .i64 e]) = some (.tup [RLn l, .int .i64 e], if ci l = [] then [] else [2]) := by
  refine view_gv2 (QM D l) 2 (ci l) (.int .i64 e) rfl true fun h => ?_
  have : l ≠ [] := by intro c; apply h; simp [c]
  simp [QM, this]
def askV (s : List Int) (fa fb : Nat → Nat) : List Nat := if chkS s = 0 then askL s fa fb 0 s.length else []
theorem asked_c (g : Nat) (fa fb : Nat → Nat) (G : AskOk g fa fb) (nl ex : Bool) (sz : Nat) (s : List Int) (hs : s.length < 1000000) (m : LMem) :
    clF LP n_post_asked [IL nl ex sz s, .func g [] []] m = some (.P, .tup [RLn (askV s fa fb), .int .i64 (chkS s)], m) := by
  have hc := fun m => check_c nl ex sz s hs m
  unfold askV
  by_cases h1 : chkS s = 0
  · have K := okS_of h1
    obtain ⟨D', h⟩ := asked_loop g fa fb G nl ex sz K s.length 0 [] ⟨[], true⟩ (by omega) (by simp) rfl
    have w0 := whole_p 0 0 (by omega) (by omega) nl ex sz K (same_ok s.length) [⟨pc n_post_same [] 0 0, true⟩] 0 true rfl
    have h : exF LP post_asked.L0 [(0, IL nl ex sz s), (1, .func g [] []), (7, .int .i64 (wholeV sR 0 0 s)), (8, .lst true true 0 0 []), (20, .int .i64 (s.length : Int)), (21, .int .i64 0)] [⟨pc n_post_same [] 0 0, true⟩] = some (.exit 0, [(8, GV 2 (ci (askL s fa fb 0 s.length)))], QM D' (askL s fa fb 0 s.length)) := h
    rw [if_pos h1]
    refine call_Pv lp_post_asked rfl (by simp [LV.pures, LV.pure]) ?_ (view_qm D' (askL s fa fb 0 s.length) (chkS s)) m
    simp only [post_asked, post_asked.B, beqT, beqF, exF_seq, exF_region, exF_block, exF_cond, exF_ret, exF_exit, exF_skip, runL, wantL, stepL, evL, evC, LEnv.at, putL, loadFine, loadL, cellsAt, Trk.putNew, Trk.up, Trk.touch, Trk.gives, Trk.calm, Trk.hit, opdsOf, Trk.fresh, LEnv.keep, LEnv.ofFrom, List.map_cons, List.map_nil, nbeq, nble, nblt, ofAV, ofAVs, lenL, bin_add, bin_sub, bin_mul, bin_eql, bin_neq, bin_lss, bin_leq, bin_gtr, bin_geq, natL_nat, natL_zero, natL_one, natL_two, Nat.zero_mul, List.any_cons, List.any_nil, Bool.or_false, Bool.false_or, Bool.true_or, Bool.or_true, Bool.and_true, Bool.true_and, Bool.and_false, Bool.false_and, Bool.not_true, Bool.not_false, Nat.reduceBEq, Nat.reduceEqDiff, decide_true, decide_false, cond_true, cond_false, List.filter_nil, List.filter_cons, Nat.reduceAdd, Nat.reduceLeDiff, reduceCtorEq, List.length_nil, List.length_cons, Nat.mul_one, if_true, if_false, Bool.false_eq_true, eq_self, and_true, true_and, retL, resultsL, resAllL, resOfL, List.append_nil, List.nil_append, List.cons_append, true_or, or_true, false_or, or_false, false_and, and_false, not_true_eq_false, not_false_eq_true, ne_eq, unL, trim_nil, views_pures, LV.pures, LV.pure, freeze, Nat.reduceDiv, Int.reduceEq, Int.reduceLT, Int.reduceLE, Int.natCast_zero, LV.cells, allocL, List.getElem?_cons_zero, List.getElem?_cons_succ, storeL, spliceL, List.take_zero, List.take_succ_cons, List.drop_zero, List.drop_succ_cons, List.drop_nil, List.take_nil, Nat.le_refl, Nat.reduceMul, List.set_cons_zero, List.set_cons_succ, LV.scalar, List.all_cons, List.all_nil, Nat.lt_add_one, Nat.zero_lt_one, Nat.reduceLT, Nat.lt_irrefl, fillL, List.length_append, foldIntL, kind_beq, pures_int, solids_int, plains_int, unders_int, scalars_int, hc, h1, pricedS_c, w0, h]
  · rw [if_neg h1]
    refine call_P lp_post_asked rfl (by simp [LV.pures, LV.pure]) (m1 := []) ?_ (by simp [LV.pures, LV.pure]) m
    simp only [post_asked, post_asked.B, beqT, beqF, exF_seq, exF_region, exF_block, exF_cond, exF_ret, exF_exit, exF_skip, runL, wantL, stepL, evL, evC, LEnv.at, putL, loadFine, loadL, cellsAt, Trk.putNew, Trk.up, Trk.touch, Trk.gives, Trk.calm, Trk.hit, opdsOf, Trk.fresh, LEnv.keep, LEnv.ofFrom, List.map_cons, List.map_nil, nbeq, nble, nblt, ofAV, ofAVs, lenL, bin_add, bin_sub, bin_mul, bin_eql, bin_neq, bin_lss, bin_leq, bin_gtr, bin_geq, natL_nat, natL_zero, natL_one, natL_two, Nat.zero_mul, List.any_cons, List.any_nil, Bool.or_false, Bool.false_or, Bool.true_or, Bool.or_true, Bool.and_true, Bool.true_and, Bool.and_false, Bool.false_and, Bool.not_true, Bool.not_false, Nat.reduceBEq, Nat.reduceEqDiff, decide_true, decide_false, cond_true, cond_false, List.filter_nil, List.filter_cons, Nat.reduceAdd, Nat.reduceLeDiff, reduceCtorEq, List.length_nil, List.length_cons, Nat.mul_one, if_true, if_false, Bool.false_eq_true, eq_self, and_true, true_and, retL, resultsL, resAllL, resOfL, List.append_nil, List.nil_append, List.cons_append, true_or, or_true, false_or, or_false, false_and, and_false, not_true_eq_false, not_false_eq_true, ne_eq, unL, trim_nil, views_pures, LV.pures, LV.pure, freeze, Nat.reduceDiv, Int.reduceEq, Int.reduceLT, Int.reduceLE, Int.natCast_zero, LV.cells, allocL, List.getElem?_cons_zero, List.getElem?_cons_succ, storeL, spliceL, List.take_zero, List.take_succ_cons, List.drop_zero, List.drop_succ_cons, List.drop_nil, List.take_nil, Nat.le_refl, Nat.reduceMul, List.set_cons_zero, List.set_cons_succ, LV.scalar, List.all_cons, List.all_nil, Nat.lt_add_one, Nat.zero_lt_one, Nat.reduceLT, Nat.lt_irrefl, fillL, List.length_append, foldIntL, kind_beq, pures_int, solids_int, plains_int, unders_int, scalars_int, hc, h1]
    rfl
theorem always_ok : AskOk n_post_Always_1 (fun _ => 0) (fun x => x) := ⟨fun _ _ => by omega, fun _ h => h, fun x m j h => by
  have hl : j < m.length := by rw [List.getElem?_eq_some_iff] at h; exact h.1
  rw [call_W lp_post_Always_1 rfl (v := .tup []) (m1 := m.set j ⟨pc n_post_same [] 0 x, true⟩)]
  · rw [trim_le _ _ _ (by simp)]
  · simp only [post_Always_1, post_Always_1.B, beqT, beqF, exF_seq, exF_region, exF_block, exF_cond, exF_ret, exF_exit, exF_skip, runL, wantL, stepL, evL, evC, LEnv.at, putL, loadFine, loadL, cellsAt, Trk.putNew, Trk.up, Trk.touch, Trk.gives, Trk.calm, Trk.hit, opdsOf, Trk.fresh, LEnv.keep, LEnv.ofFrom, List.map_cons, List.map_nil, nbeq, nble, nblt, ofAV, ofAVs, lenL, bin_add, bin_sub, bin_mul, bin_eql, bin_neq, bin_lss, bin_leq, bin_gtr, bin_geq, natL_nat, natL_zero, natL_one, natL_two, Nat.zero_mul, List.any_cons, List.any_nil, Bool.or_false, Bool.false_or, Bool.true_or, Bool.or_true, Bool.and_true, Bool.true_and, Bool.and_false, Bool.false_and, Bool.not_true, Bool.not_false, Nat.reduceBEq, Nat.reduceEqDiff, decide_true, decide_false, cond_true, cond_false, List.filter_nil, List.filter_cons, Nat.reduceAdd, Nat.reduceLeDiff, reduceCtorEq, List.length_nil, List.length_cons, Nat.mul_one, if_true, if_false, Bool.false_eq_true, eq_self, and_true, true_and, retL, resultsL, resAllL, resOfL, List.append_nil, List.nil_append, List.cons_append, true_or, or_true, false_or, or_false, false_and, and_false, not_true_eq_false, not_false_eq_true, ne_eq, unL, trim_nil, views_pures, LV.pures, LV.pure, freeze, Nat.reduceDiv, Int.reduceEq, Int.reduceLT, Int.reduceLE, Int.natCast_zero, LV.cells, allocL, List.getElem?_cons_zero, List.getElem?_cons_succ, storeL, spliceL, List.take_zero, List.take_succ_cons, List.drop_zero, List.drop_succ_cons, List.drop_nil, List.take_nil, Nat.le_refl, Nat.reduceMul, List.set_cons_zero, List.set_cons_succ, LV.scalar, List.all_cons, List.all_nil, Nat.lt_add_one, Nat.zero_lt_one, Nat.reduceLT, Nat.lt_irrefl, fillL, List.length_append, foldIntL, kind_beq, pures_int, solids_int, plains_int, unders_int, scalars_int, h]
    rfl⟩
theorem never_ok : AskOk n_post_Never_1 (fun x => x) (fun _ => 0) := ⟨fun _ h => h, fun _ _ => by omega, fun x m j h => by
  have hl : j < m.length := by rw [List.getElem?_eq_some_iff] at h; exact h.1
  rw [call_W lp_post_Never_1 rfl (v := .tup []) (m1 := m.set j ⟨pc n_post_same [] x 0, true⟩)]
  · rw [trim_le _ _ _ (by simp)]
  · simp only [post_Never_1, post_Never_1.B, beqT, beqF, exF_seq, exF_region, exF_block, exF_cond, exF_ret, exF_exit, exF_skip, runL, wantL, stepL, evL, evC, LEnv.at, putL, loadFine, loadL, cellsAt, Trk.putNew, Trk.up, Trk.touch, Trk.gives, Trk.calm, Trk.hit, opdsOf, Trk.fresh, LEnv.keep, LEnv.ofFrom, List.map_cons, List.map_nil, nbeq, nble, nblt, ofAV, ofAVs, lenL, bin_add, bin_sub, bin_mul, bin_eql, bin_neq, bin_lss, bin_leq, bin_gtr, bin_geq, natL_nat, natL_zero, natL_one, natL_two, Nat.zero_mul, List.any_cons, List.any_nil, Bool.or_false, Bool.false_or, Bool.true_or, Bool.or_true, Bool.and_true, Bool.true_and, Bool.and_false, Bool.false_and, Bool.not_true, Bool.not_false, Nat.reduceBEq, Nat.reduceEqDiff, decide_true, decide_false, cond_true, cond_false, List.filter_nil, List.filter_cons, Nat.reduceAdd, Nat.reduceLeDiff, reduceCtorEq, List.length_nil, List.length_cons, Nat.mul_one, if_true, if_false, Bool.false_eq_true, eq_self, and_true, true_and, retL, resultsL, resAllL, resOfL, List.append_nil, List.nil_append, List.cons_append, true_or, or_true, false_or, or_false, false_and, and_false, not_true_eq_false, not_false_eq_true, ne_eq, unL, trim_nil, views_pures, LV.pures, LV.pure, freeze, Nat.reduceDiv, Int.reduceEq, Int.reduceLT, Int.reduceLE, Int.natCast_zero, LV.cells, allocL, List.getElem?_cons_zero, List.getElem?_cons_succ, storeL, spliceL, List.take_zero, List.take_succ_cons, List.drop_zero, List.drop_succ_cons, List.drop_nil, List.take_nil, Nat.le_refl, Nat.reduceMul, List.set_cons_zero, List.set_cons_succ, LV.scalar, List.all_cons, List.all_nil, Nat.lt_add_one, Nat.zero_lt_one, Nat.reduceLT, Nat.lt_irrefl, fillL, List.length_append, foldIntL, kind_beq, pures_int, solids_int, plains_int, unders_int, scalars_int, h]
    rfl⟩
theorem alwaysP_c (nl ex : Bool) (sz : Nat) (s : List Int) (hs : s.length < 1000000) (m : LMem) : clF LP n_post_Always [IL nl ex sz s] m = some (.P, .tup [RLn (askV s (fun _ => 0) (fun x => x)), .int .i64 (chkS s)], m) := by
  refine call_P lp_post_Always rfl (by simp [LV.pures, LV.pure]) (m1 := []) ?_ (by simp [LV.pures, LV.pure]) m
  simp only [post_Always, post_Always.B, beqT, beqF, exF_seq, exF_region, exF_block, exF_cond, exF_ret, exF_exit, exF_skip, runL, wantL, stepL, evL, evC, LEnv.at, putL, loadFine, loadL, cellsAt, Trk.putNew, Trk.up, Trk.touch, Trk.gives, Trk.calm, Trk.hit, opdsOf, Trk.fresh, LEnv.keep, LEnv.ofFrom, List.map_cons, List.map_nil, nbeq, nble, nblt, ofAV, ofAVs, lenL, bin_add, bin_sub, bin_mul, bin_eql, bin_neq, bin_lss, bin_leq, bin_gtr, bin_geq, natL_nat, natL_zero, natL_one, natL_two, Nat.zero_mul, List.any_cons, List.any_nil, Bool.or_false, Bool.false_or, Bool.true_or, Bool.or_true, Bool.and_true, Bool.true_and, Bool.and_false, Bool.false_and, Bool.not_true, Bool.not_false, Nat.reduceBEq, Nat.reduceEqDiff, decide_true, decide_false, cond_true, cond_false, List.filter_nil, List.filter_cons, Nat.reduceAdd, Nat.reduceLeDiff, reduceCtorEq, List.length_nil, List.length_cons, Nat.mul_one, if_true, if_false, Bool.false_eq_true, eq_self, and_true, true_and, retL, resultsL, resAllL, resOfL, List.append_nil, List.nil_append, List.cons_append, true_or, or_true, false_or, or_false, false_and, and_false, not_true_eq_false, not_false_eq_true, ne_eq, unL, trim_nil, views_pures, LV.pures, LV.pure, freeze, Nat.reduceDiv, Int.reduceEq, Int.reduceLT, Int.reduceLE, Int.natCast_zero, LV.cells, allocL, List.getElem?_cons_zero, List.getElem?_cons_succ, storeL, spliceL, List.take_zero, List.take_succ_cons, List.drop_zero, List.drop_succ_cons, List.drop_nil, List.take_nil, Nat.le_refl, Nat.reduceMul, List.set_cons_zero, List.set_cons_succ, LV.scalar, List.all_cons, List.all_nil, Nat.lt_add_one, Nat.zero_lt_one, Nat.reduceLT, Nat.lt_irrefl, fillL, List.length_append, foldIntL, kind_beq, pures_int, solids_int, plains_int, unders_int, scalars_int, asked_c _ _ _ always_ok _ _ _ _ hs]
theorem neverP_c (nl ex : Bool) (sz : Nat) (s : List Int) (hs : s.length < 1000000) (m : LMem) : clF LP n_post_Never [IL nl ex sz s] m = some (.P, .tup [RLn (askV s (fun x => x) (fun _ => 0)), .int .i64 (chkS s)], m) := by
  refine call_P lp_post_Never rfl (by simp [LV.pures, LV.pure]) (m1 := []) ?_ (by simp [LV.pures, LV.pure]) m
  simp only [post_Never, post_Never.B, beqT, beqF, exF_seq, exF_region, exF_block, exF_cond, exF_ret, exF_exit, exF_skip, runL, wantL, stepL, evL, evC, LEnv.at, putL, loadFine, loadL, cellsAt, Trk.putNew, Trk.up, Trk.touch, Trk.gives, Trk.calm, Trk.hit, opdsOf, Trk.fresh, LEnv.keep, LEnv.ofFrom, List.map_cons, List.map_nil, nbeq, nble, nblt, ofAV, ofAVs, lenL, bin_add, bin_sub, bin_mul, bin_eql, bin_neq, bin_lss, bin_leq, bin_gtr, bin_geq, natL_nat, natL_zero, natL_one, natL_two, Nat.zero_mul, List.any_cons, List.any_nil, Bool.or_false, Bool.false_or, Bool.true_or, Bool.or_true, Bool.and_true, Bool.true_and, Bool.and_false, Bool.false_and, Bool.not_true, Bool.not_false, Nat.reduceBEq, Nat.reduceEqDiff, decide_true, decide_false, cond_true, cond_false, List.filter_nil, List.filter_cons, Nat.reduceAdd, Nat.reduceLeDiff, reduceCtorEq, List.length_nil, List.length_cons, Nat.mul_one, if_true, if_false, Bool.false_eq_true, eq_self, and_true, true_and, retL, resultsL, resAllL, resOfL, List.append_nil, List.nil_append, List.cons_append, true_or, or_true, false_or, or_false, false_and, and_false, not_true_eq_false, not_false_eq_true, ne_eq, unL, trim_nil, views_pures, LV.pures, LV.pure, freeze, Nat.reduceDiv, Int.reduceEq, Int.reduceLT, Int.reduceLE, Int.natCast_zero, LV.cells, allocL, List.getElem?_cons_zero, List.getElem?_cons_succ, storeL, spliceL, List.take_zero, List.take_succ_cons, List.drop_zero, List.drop_succ_cons, List.drop_nil, List.take_nil, Nat.le_refl, Nat.reduceMul, List.set_cons_zero, List.set_cons_succ, LV.scalar, List.all_cons, List.all_nil, Nat.lt_add_one, Nat.zero_lt_one, Nat.reduceLT, Nat.lt_irrefl, fillL, List.length_append, foldIntL, kind_beq, pures_int, solids_int, plains_int, unders_int, scalars_int, asked_c _ _ _ never_ok _ _ _ _ hs]

/-! ### The reference's -/
def hasN (L : List (List Nat)) (p : Nat) : Nat := (L.filter fun l => decide (p ∈ l)).length
def oftL (L : List (List Nat)) (many k n : Nat) : List Nat := (List.range' k n).filter fun p => decide (hasN L p = many)
/-- What is asked for, by lists. -/
theorem always_eq {s : List Int} (K : OkS s) : askL s (fun _ => 0) (fun x => x) 0 s.length = oftL (smallS s) (smallS s).length 0 s.length := by
  unfold askL oftL
  refine List.filter_congr fun i hi => ?_
  rw [List.mem_range'] at hi
  obtain ⟨j, hj, rfl⟩ := hi
  rw [decide_eq_decide]
  have hb := best_le K (fun _ => 1) (fun _ _ => by omega)
  have e0 : wholeV sR 0 0 s = (bestC s (fun _ => 1) : Int) := by
    rw [whole_iff K n_post_same [] (fun _ => 1) (fun _ _ => by omega) 0 0 _ (by omega), ← best_ok s (fun _ => 1)]
    exact wh_congr _ _ _ (fun v _ => Nat.zero_testBit v) (fun v _ => Nat.zero_testBit v)
  rw [e0, ne_eq, whole_iff K n_post_same [] (fun _ => 1) (fun _ _ => by omega) _ _ _ (by omega), wh_some]
  have hmin := ((wh_some _ _ _ _ _ _).1 (best_ok s (fun _ => 1))).2
  have hf : hasN (smallS s) (0 + 1 * j) = (smallS s).length ↔ ∀ l ∈ smallS s, 0 + 1 * j ∈ l := by
    unfold hasN
    rw [List.length_filter_eq_length_iff]
    simp
  rw [hf]
  constructor
  · intro h l hl
    refine Classical.byContradiction fun c => h ⟨⟨l, (List.mem_filter.1 hl).1, ⟨?_, fun v _ hv => by simp at hv, fun v hv hvl => ?_⟩, ?_⟩, fun S hS ⟨h1, _, _⟩ => hmin S hS ⟨h1, by simp, by simp⟩⟩
    · have := (List.mem_filter.1 hl).2; simp only [goodC, Bool.and_eq_true] at this; exact this.1
    · rw [Nat.testBit_two_pow, decide_eq_false_iff_not]
      intro e; rw [← e] at hvl; exact c hvl
    · have := (List.mem_filter.1 hl).2; simp only [goodC, Bool.and_eq_true, decide_eq_true_eq] at this; exact this.2
  · rintro h ⟨⟨S, hS, ⟨h1, _, h3⟩, h4⟩, _⟩
    have hm : S ∈ smallS s := List.mem_filter.2 ⟨hS, by simp [goodC, h1, h4]⟩
    have := h3 (0 + 1 * j) (by omega) (h S hm)
    rw [Nat.testBit_two_pow] at this
    simp at this
theorem never_eq {s : List Int} (K : OkS s) : askL s (fun x => x) (fun _ => 0) 0 s.length = oftL (smallS s) 0 0 s.length := by
  unfold askL oftL
  refine List.filter_congr fun i hi => ?_
  rw [List.mem_range'] at hi
  obtain ⟨j, hj, rfl⟩ := hi
  rw [decide_eq_decide]
  have hb := best_le K (fun _ => 1) (fun _ _ => by omega)
  have e0 : wholeV sR 0 0 s = (bestC s (fun _ => 1) : Int) := by
    rw [whole_iff K n_post_same [] (fun _ => 1) (fun _ _ => by omega) 0 0 _ (by omega), ← best_ok s (fun _ => 1)]
    exact wh_congr _ _ _ (fun v _ => Nat.zero_testBit v) (fun v _ => Nat.zero_testBit v)
  rw [e0, ne_eq, whole_iff K n_post_same [] (fun _ => 1) (fun _ _ => by omega) _ _ _ (by omega), wh_some]
  have hmin := ((wh_some _ _ _ _ _ _).1 (best_ok s (fun _ => 1))).2
  have hf : hasN (smallS s) (0 + 1 * j) = 0 ↔ ∀ l ∈ smallS s, ¬ 0 + 1 * j ∈ l := by
    unfold hasN
    rw [List.length_eq_zero_iff, List.filter_eq_nil_iff]
    simp
  rw [hf]
  constructor
  · intro h l hl c
    refine h ⟨⟨l, (List.mem_filter.1 hl).1, ⟨?_, fun v _ hv => ?_, fun v hv hvl => by simp⟩, ?_⟩, fun S hS ⟨h1, _, _⟩ => hmin S hS ⟨h1, by simp, by simp⟩⟩
    · have := (List.mem_filter.1 hl).2; simp only [goodC, Bool.and_eq_true] at this; exact this.1
    · rw [Nat.testBit_two_pow, decide_eq_true_eq] at hv
      rw [← hv]; exact c
    · have := (List.mem_filter.1 hl).2; simp only [goodC, Bool.and_eq_true, decide_eq_true_eq] at this; exact this.2
  · rintro h ⟨⟨S, hS, ⟨h1, h2, _⟩, h4⟩, _⟩
    have hm : S ∈ smallS s := List.mem_filter.2 ⟨hS, by simp [goodC, h1, h4]⟩
    exact h S hm (h2 (0 + 1 * j) (by omega) (by rw [Nat.testBit_two_pow]; simp))
end Go.Am.Post

/-
  Plain: in a tree the fewest posts that guard are as many as places can be apart; a place more; smaller prices. No statement of the seat is proved here.
-/
set_option linter.unusedVariables false
set_option linter.unusedSimpArgs false
namespace Go.Am.Post

/-- A place is at hand. -/
def near (par : Nat → Nat) (v w : Nat) : Prop := v = w ∨ adj par v w = true
theorem dom_iff (par : Nat → Nat) (n : Nat) (S : List Nat) : dom par n S = true ↔ ∀ v, v < n → ∃ u ∈ S, near par v u := by
  rw [dom, allN_iff]
  constructor
  · intro h v hv
    have := h v hv
    unfold okS at this
    by_cases c : v ∈ S
    · exact ⟨v, c, .inl rfl⟩
    · rw [if_neg c] at this
      simp only [Bool.not_false, Bool.and_true, List.any_eq_true] at this
      obtain ⟨u, hu, e⟩ := this
      exact ⟨u, hu, .inr e⟩
  · intro h v hv
    obtain ⟨u, hu, e⟩ := h v hv
    unfold okS
    by_cases c : v ∈ S
    · rw [if_pos c]; rfl
    · rw [if_neg c]
      simp only [Bool.not_false, Bool.and_true, List.any_eq_true]
      rcases e with e | e
      · exact absurd (e ▸ hu) c
      · exact ⟨u, hu, e⟩
def far (par : Nat → Nat) (a b : Nat) : Prop := ∀ w, ¬ (near par a w ∧ near par b w)
theorem len_le : ∀ (A B : List Nat), A.Nodup → (∀ x ∈ A, x ∈ B) → A.length ≤ B.length
  | [], B, _, _ => Nat.zero_le _
  | a :: r, B, hn, h => by
    obtain ⟨h1, h2⟩ := List.nodup_cons.1 hn
    have ha := h a (by simp)
    have ih := len_le r (B.erase a) h2 fun x hx => by
      have hne : x ≠ a := fun e => h1 (e ▸ hx)
      exact (List.mem_erase_of_ne hne).2 (h x (by simp [hx]))
    rw [List.length_erase_of_mem ha] at ih
    have : 0 < B.length := List.length_pos_of_mem ha
    simp only [List.length_cons]
    omega
/-- Places that are apart are never more than posts that guard. -/
theorem weak (par : Nat → Nat) (n : Nat) {S P : List Nat} (hS : dom par n S = true) (hP : ∀ p ∈ P, p < n) (hf : P.Pairwise (far par)) : P.length ≤ S.length := by
  rw [dom_iff] at hS
  have hch : ∃ f : Nat → Nat, ∀ p, p < n → f p ∈ S ∧ near par p (f p) := by
    refine ⟨fun p => if h : p < n then Classical.choose (hS p h) else 0, fun p h => ?_⟩
    simp only [h, dif_pos]
    exact Classical.choose_spec (hS p h)
  obtain ⟨f, hf2⟩ := hch
  have hn : (P.map f).Nodup := by
    rw [List.Nodup, List.pairwise_map]
    refine List.Pairwise.imp_of_mem ?_ hf
    intro a b ha hb hab e
    exact hab (f a) ⟨(hf2 a (hP a ha)).2, e ▸ (hf2 b (hP b hb)).2⟩
  have := len_le (P.map f) S hn fun x hx => by
    obtain ⟨p, hp, rfl⟩ := List.mem_map.1 hx
    exact (hf2 p (hP p hp)).1
  simpa using this
end Go.Am.Post


