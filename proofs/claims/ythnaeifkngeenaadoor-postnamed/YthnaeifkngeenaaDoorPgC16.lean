import Derived.Test.YthnaeifkngeenaaDoorPgC15
import Derived.Test.YthnaeifkngeenaaDoorPgC13
import Derived.Test.YthnaeifkngeenaaDoorPgC14
/-
  What functions of chapter 12 compute, 16: places that are always, or never, in the smallest lists; the law of counts.
-/
set_option linter.unusedVariables false
set_option linter.unusedSimpArgs false
set_option maxRecDepth 10000
namespace Go.Am.Post
open Go.Am.G

/-! ### Counts -/
theorem count1_c (x y : Int) (m : LMem) : clF LP n_post_Count_1 [.int .i64 x, .int .i64 y] m = some (.P, .int .i64 (IntKind.i64.wrap (x * y)), m) := by
  refine call_P lp_post_Count_1 rfl rfl (m1 := []) ?_ rfl m
  simp only [post_Count_1, post_Count_1.B, beqT, beqF, exF_seq, exF_region, exF_block, exF_cond, exF_ret, exF_exit, exF_skip, runL, wantL, stepL, evL, evC, LEnv.at, putL, loadFine, loadL, cellsAt, Trk.putNew, Trk.up, Trk.touch, Trk.gives, Trk.calm, Trk.hit, opdsOf, Trk.fresh, LEnv.keep, LEnv.ofFrom, List.map_cons, List.map_nil, nbeq, nble, nblt, ofAV, ofAVs, lenL, bin_add, bin_sub, bin_mul, bin_eql, bin_neq, bin_lss, bin_leq, bin_gtr, bin_geq, natL_nat, natL_zero, natL_one, natL_two, Nat.zero_mul, List.any_cons, List.any_nil, Bool.or_false, Bool.false_or, Bool.true_or, Bool.or_true, Bool.and_true, Bool.true_and, Bool.and_false, Bool.false_and, Bool.not_true, Bool.not_false, Nat.reduceBEq, Nat.reduceEqDiff, decide_true, decide_false, cond_true, cond_false, List.filter_nil, List.filter_cons, Nat.reduceAdd, Nat.reduceLeDiff, reduceCtorEq, List.length_nil, List.length_cons, Nat.mul_one, if_true, if_false, Bool.false_eq_true, eq_self, and_true, true_and, retL, resultsL, resAllL, resOfL, List.append_nil, List.nil_append, List.cons_append, true_or, or_true, false_or, or_false, false_and, and_false, not_true_eq_false, not_false_eq_true, ne_eq, unL, trim_nil, views_pures, LV.pures, LV.pure, freeze, Nat.reduceDiv, Int.reduceEq, Int.reduceLT, Int.reduceLE, Int.natCast_zero, LV.cells, allocL, List.getElem?_cons_zero, List.getElem?_cons_succ, storeL, spliceL, List.take_zero, List.take_succ_cons, List.drop_zero, List.drop_succ_cons, List.drop_nil, List.take_nil, Nat.le_refl, Nat.reduceMul, List.set_cons_zero, List.set_cons_succ, LV.scalar, List.all_cons, List.all_nil, Nat.lt_add_one, Nat.zero_lt_one, Nat.reduceLT, Nat.lt_irrefl, fillL, List.length_append, foldIntL, kind_beq, pures_int, solids_int, plains_int, unders_int, scalars_int]
theorem count2_c (x y : Int) (m : LMem) : clF LP n_post_Count_2 [.int .i64 x, .int .i64 y] m = some (.P, .int .i64 (IntKind.i64.wrap (x + y)), m) := by
  refine call_P lp_post_Count_2 rfl rfl (m1 := []) ?_ rfl m
  simp only [post_Count_2, post_Count_2.B, beqT, beqF, exF_seq, exF_region, exF_block, exF_cond, exF_ret, exF_exit, exF_skip, runL, wantL, stepL, evL, evC, LEnv.at, putL, loadFine, loadL, cellsAt, Trk.putNew, Trk.up, Trk.touch, Trk.gives, Trk.calm, Trk.hit, opdsOf, Trk.fresh, LEnv.keep, LEnv.ofFrom, List.map_cons, List.map_nil, nbeq, nble, nblt, ofAV, ofAVs, lenL, bin_add, bin_sub, bin_mul, bin_eql, bin_neq, bin_lss, bin_leq, bin_gtr, bin_geq, natL_nat, natL_zero, natL_one, natL_two, Nat.zero_mul, List.any_cons, List.any_nil, Bool.or_false, Bool.false_or, Bool.true_or, Bool.or_true, Bool.and_true, Bool.true_and, Bool.and_false, Bool.false_and, Bool.not_true, Bool.not_false, Nat.reduceBEq, Nat.reduceEqDiff, decide_true, decide_false, cond_true, cond_false, List.filter_nil, List.filter_cons, Nat.reduceAdd, Nat.reduceLeDiff, reduceCtorEq, List.length_nil, List.length_cons, Nat.mul_one, if_true, if_false, Bool.false_eq_true, eq_self, and_true, true_and, retL, resultsL, resAllL, resOfL, List.append_nil, List.nil_append, List.cons_append, true_or, or_true, false_or, or_false, false_and, and_false, not_true_eq_false, not_false_eq_true, ne_eq, unL, trim_nil, views_pures, LV.pures, LV.pure, freeze, Nat.reduceDiv, Int.reduceEq, Int.reduceLT, Int.reduceLE, Int.natCast_zero, LV.cells, allocL, List.getElem?_cons_zero, List.getElem?_cons_succ, storeL, spliceL, List.take_zero, List.take_succ_cons, List.drop_zero, List.drop_succ_cons, List.drop_nil, List.take_nil, Nat.le_refl, Nat.reduceMul, List.set_cons_zero, List.set_cons_succ, LV.scalar, List.all_cons, List.all_nil, Nat.lt_add_one, Nat.zero_lt_one, Nat.reduceLT, Nat.lt_irrefl, fillL, List.length_append, foldIntL, kind_beq, pures_int, solids_int, plains_int, unders_int, scalars_int]
theorem cnt_ok (n : Nat) : cntR.Ok n := ⟨rfl, fun i _ m => same_c _ m, fun x y m => count1_c x y m, fun x y m => count2_c x y m⟩
def cntV (s : List Int) : Nat := if chkS s = 0 then (gs s).length else 0
theorem countP_c (nl ex : Bool) (sz : Nat) (s : List Int) (hs : s.length < 1000000) (m : LMem) : clF LP n_post_Count [IL nl ex sz s] m = some (.P, .tup [.int .i64 (cntV s : Int), .int .i64 (chkS s)], m) := by
  have hc := fun m => check_c nl ex sz s hs m
  unfold cntV
  by_cases h1 : chkS s = 0
  · have K := okS_of h1
    have w : clF LP n_post_rating_int_whole [.ptr 0 0 7, IL nl ex sz s] [⟨[.func n_post_same [] [], .int .i64 1, .func n_post_Count_1 [] [], .func n_post_Count_2 [] [], .int .i64 0, .int .u64 0, .int .u64 0], true⟩] = _ := whole_v cntR 0 0 (by omega) (by omega) nl ex sz K (cnt_ok s.length) _ 0 true rfl
    rw [count_eq K, ← gs_dom K] at w
    rw [if_pos h1]
    refine call_P lp_post_Count rfl (by simp [LV.pures, LV.pure]) (m1 := [⟨cntR.cells 0 0, true⟩]) ?_ (by simp [LV.pures, LV.pure]) m
    simp only [post_Count, post_Count.B, beqT, beqF, exF_seq, exF_region, exF_block, exF_cond, exF_ret, exF_exit, exF_skip, runL, wantL, stepL, evL, evC, LEnv.at, putL, loadFine, loadL, cellsAt, Trk.putNew, Trk.up, Trk.touch, Trk.gives, Trk.calm, Trk.hit, opdsOf, Trk.fresh, LEnv.keep, LEnv.ofFrom, List.map_cons, List.map_nil, nbeq, nble, nblt, ofAV, ofAVs, lenL, bin_add, bin_sub, bin_mul, bin_eql, bin_neq, bin_lss, bin_leq, bin_gtr, bin_geq, natL_nat, natL_zero, natL_one, natL_two, Nat.zero_mul, List.any_cons, List.any_nil, Bool.or_false, Bool.false_or, Bool.true_or, Bool.or_true, Bool.and_true, Bool.true_and, Bool.and_false, Bool.false_and, Bool.not_true, Bool.not_false, Nat.reduceBEq, Nat.reduceEqDiff, decide_true, decide_false, cond_true, cond_false, List.filter_nil, List.filter_cons, Nat.reduceAdd, Nat.reduceLeDiff, reduceCtorEq, List.length_nil, List.length_cons, Nat.mul_one, if_true, if_false, Bool.false_eq_true, eq_self, and_true, true_and, retL, resultsL, resAllL, resOfL, List.append_nil, List.nil_append, List.cons_append, true_or, or_true, false_or, or_false, false_and, and_false, not_true_eq_false, not_false_eq_true, ne_eq, unL, trim_nil, views_pures, LV.pures, LV.pure, freeze, Nat.reduceDiv, Int.reduceEq, Int.reduceLT, Int.reduceLE, Int.natCast_zero, LV.cells, allocL, List.getElem?_cons_zero, List.getElem?_cons_succ, storeL, spliceL, List.take_zero, List.take_succ_cons, List.drop_zero, List.drop_succ_cons, List.drop_nil, List.take_nil, Nat.le_refl, Nat.reduceMul, List.set_cons_zero, List.set_cons_succ, LV.scalar, List.all_cons, List.all_nil, Nat.lt_add_one, Nat.zero_lt_one, Nat.reduceLT, Nat.lt_irrefl, fillL, List.length_append, foldIntL, kind_beq, pures_int, solids_int, plains_int, unders_int, scalars_int, hc, h1, w]
    rfl
  · rw [if_neg h1]
    refine call_P lp_post_Count rfl (by simp [LV.pures, LV.pure]) (m1 := []) ?_ (by simp [LV.pures, LV.pure]) m
    simp only [post_Count, post_Count.B, beqT, beqF, exF_seq, exF_region, exF_block, exF_cond, exF_ret, exF_exit, exF_skip, runL, wantL, stepL, evL, evC, LEnv.at, putL, loadFine, loadL, cellsAt, Trk.putNew, Trk.up, Trk.touch, Trk.gives, Trk.calm, Trk.hit, opdsOf, Trk.fresh, LEnv.keep, LEnv.ofFrom, List.map_cons, List.map_nil, nbeq, nble, nblt, ofAV, ofAVs, lenL, bin_add, bin_sub, bin_mul, bin_eql, bin_neq, bin_lss, bin_leq, bin_gtr, bin_geq, natL_nat, natL_zero, natL_one, natL_two, Nat.zero_mul, List.any_cons, List.any_nil, Bool.or_false, Bool.false_or, Bool.true_or, Bool.or_true, Bool.and_true, Bool.true_and, Bool.and_false, Bool.false_and, Bool.not_true, Bool.not_false, Nat.reduceBEq, Nat.reduceEqDiff, decide_true, decide_false, cond_true, cond_false, List.filter_nil, List.filter_cons, Nat.reduceAdd, Nat.reduceLeDiff, reduceCtorEq, List.length_nil, List.length_cons, Nat.mul_one, if_true, if_false, Bool.false_eq_true, eq_self, and_true, true_and, retL, resultsL, resAllL, resOfL, List.append_nil, List.nil_append, List.cons_append, true_or, or_true, false_or, or_false, false_and, and_false, not_true_eq_false, not_false_eq_true, ne_eq, unL, trim_nil, views_pures, LV.pures, LV.pure, freeze, Nat.reduceDiv, Int.reduceEq, Int.reduceLT, Int.reduceLE, Int.natCast_zero, LV.cells, allocL, List.getElem?_cons_zero, List.getElem?_cons_succ, storeL, spliceL, List.take_zero, List.take_succ_cons, List.drop_zero, List.drop_succ_cons, List.drop_nil, List.take_nil, Nat.le_refl, Nat.reduceMul, List.set_cons_zero, List.set_cons_succ, LV.scalar, List.all_cons, List.all_nil, Nat.lt_add_one, Nat.zero_lt_one, Nat.reduceLT, Nat.lt_irrefl, fillL, List.length_append, foldIntL, kind_beq, pures_int, solids_int, plains_int, unders_int, scalars_int, hc, h1]
def wayV (s : List Int) : Nat := if chkS s = 0 then (smallS s).length else 0
theorem waysP_c (nl ex : Bool) (sz : Nat) (s : List Int) (hs : s.length < 1000000) (m : LMem) : clF LP n_post_Ways [IL nl ex sz s] m = some (.P, .tup [.int .i64 (wayV s : Int), .int .i64 (chkS s)], m) := by
  have hc := fun m => check_c nl ex sz s hs m
  unfold wayV
  by_cases h1 : chkS s = 0
  · have K := okS_of h1
    have w : ∃ m', clF LP n_post_rating_post_few_whole [.ptr 0 0 9, IL nl ex sz s] [⟨fCells, true⟩] = some (.P, .agg [.int .i64 (fWhole s).1, .int .i64 (fWhole s).2], m') := by
      have hv : views [⟨fCells, true⟩] [.ptr 0 0 9, IL nl ex sz s] = some ([.elt fCells 0, IL nl ex sz s], [0]) := by
        refine views_two 32 _ _ _ _ _ (fun k => ?_) rfl (by simp [LV.pures, LV.pure])
        have hpu : LV.pures fCells = true := rfl
        simp only [view, List.getElem?_cons_zero, viewL_pures _ _ _ hpu]
        rfl
      obtain ⟨m', h, _⟩ := call_shown lp_post_rating_post_few_whole rfl hv (by simp [LV.pures, LV.pure]) (fwhole_c nl ex sz K [])
      exact ⟨m', h⟩
    obtain ⟨m', w⟩ := w
    rw [ways_eq K] at w
    rw [if_pos h1]
    refine call_P lp_post_Ways rfl (by simp [LV.pures, LV.pure]) (m1 := m') ?_ (by simp [LV.pures, LV.pure]) m
    simp only [post_Ways, post_Ways.B, beqT, beqF, exF_seq, exF_region, exF_block, exF_cond, exF_ret, exF_exit, exF_skip, runL, wantL, stepL, evL, evC, LEnv.at, putL, loadFine, loadL, cellsAt, Trk.putNew, Trk.up, Trk.touch, Trk.gives, Trk.calm, Trk.hit, opdsOf, Trk.fresh, LEnv.keep, LEnv.ofFrom, List.map_cons, List.map_nil, nbeq, nble, nblt, ofAV, ofAVs, lenL, bin_add, bin_sub, bin_mul, bin_eql, bin_neq, bin_lss, bin_leq, bin_gtr, bin_geq, natL_nat, natL_zero, natL_one, natL_two, Nat.zero_mul, List.any_cons, List.any_nil, Bool.or_false, Bool.false_or, Bool.true_or, Bool.or_true, Bool.and_true, Bool.true_and, Bool.and_false, Bool.false_and, Bool.not_true, Bool.not_false, Nat.reduceBEq, Nat.reduceEqDiff, decide_true, decide_false, cond_true, cond_false, List.filter_nil, List.filter_cons, Nat.reduceAdd, Nat.reduceLeDiff, reduceCtorEq, List.length_nil, List.length_cons, Nat.mul_one, if_true, if_false, Bool.false_eq_true, eq_self, and_true, true_and, retL, resultsL, resAllL, resOfL, List.append_nil, List.nil_append, List.cons_append, true_or, or_true, false_or, or_false, false_and, and_false, not_true_eq_false, not_false_eq_true, ne_eq, unL, trim_nil, views_pures, LV.pures, LV.pure, freeze, Nat.reduceDiv, Int.reduceEq, Int.reduceLT, Int.reduceLE, Int.natCast_zero, LV.cells, allocL, List.getElem?_cons_zero, List.getElem?_cons_succ, storeL, spliceL, List.take_zero, List.take_succ_cons, List.drop_zero, List.drop_succ_cons, List.drop_nil, List.take_nil, Nat.le_refl, Nat.reduceMul, List.set_cons_zero, List.set_cons_succ, LV.scalar, List.all_cons, List.all_nil, Nat.lt_add_one, Nat.zero_lt_one, Nat.reduceLT, Nat.lt_irrefl, fillL, List.length_append, foldIntL, kind_beq, pures_int, solids_int, plains_int, unders_int, scalars_int, hc, h1, w]
  · rw [if_neg h1]
    refine call_P lp_post_Ways rfl (by simp [LV.pures, LV.pure]) (m1 := []) ?_ (by simp [LV.pures, LV.pure]) m
    simp only [post_Ways, post_Ways.B, beqT, beqF, exF_seq, exF_region, exF_block, exF_cond, exF_ret, exF_exit, exF_skip, runL, wantL, stepL, evL, evC, LEnv.at, putL, loadFine, loadL, cellsAt, Trk.putNew, Trk.up, Trk.touch, Trk.gives, Trk.calm, Trk.hit, opdsOf, Trk.fresh, LEnv.keep, LEnv.ofFrom, List.map_cons, List.map_nil, nbeq, nble, nblt, ofAV, ofAVs, lenL, bin_add, bin_sub, bin_mul, bin_eql, bin_neq, bin_lss, bin_leq, bin_gtr, bin_geq, natL_nat, natL_zero, natL_one, natL_two, Nat.zero_mul, List.any_cons, List.any_nil, Bool.or_false, Bool.false_or, Bool.true_or, Bool.or_true, Bool.and_true, Bool.true_and, Bool.and_false, Bool.false_and, Bool.not_true, Bool.not_false, Nat.reduceBEq, Nat.reduceEqDiff, decide_true, decide_false, cond_true, cond_false, List.filter_nil, List.filter_cons, Nat.reduceAdd, Nat.reduceLeDiff, reduceCtorEq, List.length_nil, List.length_cons, Nat.mul_one, if_true, if_false, Bool.false_eq_true, eq_self, and_true, true_and, retL, resultsL, resAllL, resOfL, List.append_nil, List.nil_append, List.cons_append, true_or, or_true, false_or, or_false, false_and, and_false, not_true_eq_false, not_false_eq_true, ne_eq, unL, trim_nil, views_pures, LV.pures, LV.pure, freeze, Nat.reduceDiv, Int.reduceEq, Int.reduceLT, Int.reduceLE, Int.natCast_zero, LV.cells, allocL, List.getElem?_cons_zero, List.getElem?_cons_succ, storeL, spliceL, List.take_zero, List.take_succ_cons, List.drop_zero, List.drop_succ_cons, List.drop_nil, List.take_nil, Nat.le_refl, Nat.reduceMul, List.set_cons_zero, List.set_cons_succ, LV.scalar, List.all_cons, List.all_nil, Nat.lt_add_one, Nat.zero_lt_one, Nat.reduceLT, Nat.lt_irrefl, fillL, List.length_append, foldIntL, kind_beq, pures_int, solids_int, plains_int, unders_int, scalars_int, hc, h1]
/-! ### Places that are asked for -/
abbrev sR : Rat := minR n_post_same [] (fun _ => 1)
def askL (s : List Int) (fa fb : Nat → Nat) (k n : Nat) : List Nat := (List.range' k n).filter fun i => decide (wholeV sR (fa (2 ^ i)) (fb (2 ^ i)) s ≠ wholeV sR 0 0 s)
theorem askL_succ (s : List Int) (fa fb : Nat → Nat) (k n : Nat) : askL s fa fb k (n + 1) = (if wholeV sR (fa (2 ^ k)) (fb (2 ^ k)) s ≠ wholeV sR 0 0 s then [k] else []) ++ askL s fa fb (k + 1) n := by
  unfold askL
  rw [List.range'_succ, List.filter_cons]
  simp only [decide_eq_true_eq]
  split <;> rfl
def QM (D : LBlk) (l : List Nat) : LMem := if l = [] then [⟨pc n_post_same [] 0 0, true⟩] else [⟨pc n_post_same [] 0 0, true⟩, D, ⟨(ci l).map (LV.int .i64), true⟩]
structure AskOk (g : Nat) (fa fb : Nat → Nat) : Prop where
  la : ∀ x, x < 1024 → fa x < 1024
  lb : ∀ x, x < 1024 → fb x < 1024
  c : ∀ (x : Nat) (m : LMem) (j : Nat), m[j]? = some ⟨pc n_post_same [] 0 0, true⟩ → clF LP g [.ptr j 0 7, .int .u64 (x : Int)] m = some (.W, .tup [], m.set j ⟨pc n_post_same [] (fa x) (fb x), true⟩)
theorem pricedS_c (m : LMem) : clF LP n_post_priced [.func n_post_same [] []] m = some (.O, .ptr m.length 0 7, m ++ [⟨pc n_post_same [] 0 0, true⟩]) := priced_c n_post_same [] rfl m
theorem asked_loop (g : Nat) (fa fb : Nat → Nat) (G : AskOk g fa fb) (nl ex : Bool) (sz : Nat) {s : List Int} (K : OkS s) (n : Nat) : ∀ (k : Nat) (l : List Nat) (D : LBlk), k + n = s.length → l.length ≤ k → LV.unders 3 D.cells = true →
    ∃ D', exF LP post_asked.L0 [(0, IL nl ex sz s), (1, .func g [] []), (7, .int .i64 (wholeV sR 0 0 s)), (8, GV 2 (ci l)), (20, .int .i64 (s.length : Int)), (21, .int .i64 (k : Int))] (QM D l) = some (.exit 0, [(8, GV 2 (ci (l ++ askL s fa fb k n)))], QM D' (l ++ askL s fa fb k n)) := by
  have h10 := K.le
  induction n with
  | zero =>
    intro k l D hk hl hD
    refine ⟨D, ?_⟩
    rw [post_asked.L0_eq]
    simp only [post_asked.B0, beqT, beqF, exF_seq, exF_region, exF_block, exF_cond, exF_ret, exF_exit, exF_skip, runL, wantL, stepL, evL, evC, LEnv.at, putL, loadFine, loadL, cellsAt, Trk.putNew, Trk.up, Trk.touch, Trk.gives, Trk.calm, Trk.hit, opdsOf, Trk.fresh, LEnv.keep, LEnv.ofFrom, List.map_cons, List.map_nil, nbeq, nble, nblt, ofAV, ofAVs, lenL, bin_add, bin_sub, bin_mul, bin_eql, bin_neq, bin_lss, bin_leq, bin_gtr, bin_geq, natL_nat, natL_zero, natL_one, natL_two, Nat.zero_mul, List.any_cons, List.any_nil, Bool.or_false, Bool.false_or, Bool.true_or, Bool.or_true, Bool.and_true, Bool.true_and, Bool.and_false, Bool.false_and, Bool.not_true, Bool.not_false, Nat.reduceBEq, Nat.reduceEqDiff, decide_true, decide_false, cond_true, cond_false, List.filter_nil, List.filter_cons, Nat.reduceAdd, Nat.reduceLeDiff, reduceCtorEq, List.length_nil, List.length_cons, Nat.mul_one, if_true, if_false, Bool.false_eq_true, eq_self, and_true, true_and, retL, resultsL, resAllL, resOfL, List.append_nil, List.nil_append, List.cons_append, true_or, or_true, false_or, or_false, false_and, and_false, not_true_eq_false, not_false_eq_true, ne_eq, unL, trim_nil, views_pures, LV.pures, LV.pure, freeze, Nat.reduceDiv, Int.reduceEq, Int.reduceLT, Int.reduceLE, Int.natCast_zero, LV.cells, allocL, List.getElem?_cons_zero, List.getElem?_cons_succ, storeL, spliceL, List.take_zero, List.take_succ_cons, List.drop_zero, List.drop_succ_cons, List.drop_nil, List.take_nil, Nat.le_refl, Nat.reduceMul, List.set_cons_zero, List.set_cons_succ, LV.scalar, List.all_cons, List.all_nil, Nat.lt_add_one, Nat.zero_lt_one, Nat.reduceLT, Nat.lt_irrefl, fillL, List.length_append, foldIntL, kind_beq, pures_int, solids_int, plains_int, unders_int, scalars_int, show ¬ ((k : Int) < (s.length : Int)) by omega, askL, List.range'_zero]
  | succ n ih =>
    intro k l D hk hl hD
    have hpk : 2 ^ k < 1024 := (Nat.pow_lt_pow_right (by omega) (show k < 10 by omega) : 2 ^ k < 2 ^ 10)
    have la := G.la _ hpk
    have lb := G.lb _ hpk
    have e : ci l ++ [(k : Int)] = ci (l ++ [k]) := by simp
    rw [askL_succ]
    by_cases hnil : l = []
    · subst hnil
      have gc := G.c (2 ^ k) [⟨pc n_post_same [] 0 0, true⟩, ⟨pc n_post_same [] 0 0, true⟩] 1 rfl
      have w := whole_p (fa (2 ^ k)) (fb (2 ^ k)) la lb nl ex sz K (same_ok s.length) [⟨pc n_post_same [] 0 0, true⟩, ⟨pc n_post_same [] (fa (2 ^ k)) (fb (2 ^ k)), true⟩] 1 true rfl
      simp only [List.set_cons_succ, List.set_cons_zero] at gc
      simp only [QM, if_true]
      rw [post_asked.L0_eq]
      by_cases c : wholeV sR (fa (2 ^ k)) (fb (2 ^ k)) s ≠ wholeV sR 0 0 s
      · rw [if_pos c]
        have ap := append_grow [⟨pc n_post_same [] 0 0, true⟩, ⟨pc n_post_same [] (fa (2 ^ k)) (fb (2 ^ k)), true⟩] (ci []) (k : Int) true (by simp)
        simp only [List.map_nil, List.nil_append, GV_nil, GM_nil, List.append_nil, List.length_cons, List.length_nil, Nat.reduceAdd] at ap
        have hGV : GV 2 [(k : Int)] = .sl 2 0 1 1 1 1 1 := rfl
        have hGM : GM [(k : Int)] = [⟨[.int .i64 (k : Int)], true⟩] := rfl
        rw [hGV, hGM] at ap
        obtain ⟨D', h⟩ := ih (k + 1) [k] ⟨pc n_post_same [] (fa (2 ^ k)) (fb (2 ^ k)), true⟩ (by omega) (by simp) rfl
        refine ⟨D', ?_⟩
        have h : exF LP post_asked.L0 [(0, IL nl ex sz s), (1, .func g [] []), (7, .int .i64 (wholeV sR 0 0 s)), (8, .sl 2 0 1 1 1 1 1), (20, .int .i64 (s.length : Int)), (21, .int .i64 ((k + 1 : Nat) : Int))] [⟨pc n_post_same [] 0 0, true⟩, ⟨pc n_post_same [] (fa (2 ^ k)) (fb (2 ^ k)), true⟩, ⟨[.int .i64 (k : Int)], true⟩] = _ := h
        simp only [post_asked.B0, beqT, beqF, exF_seq, exF_region, exF_block, exF_cond, exF_ret, exF_exit, exF_skip, runL, wantL, stepL, evL, evC, LEnv.at, putL, loadFine, loadL, cellsAt, Trk.putNew, Trk.up, Trk.touch, Trk.gives, Trk.calm, Trk.hit, opdsOf, Trk.fresh, LEnv.keep, LEnv.ofFrom, List.map_cons, List.map_nil, nbeq, nble, nblt, ofAV, ofAVs, lenL, bin_add, bin_sub, bin_mul, bin_eql, bin_neq, bin_lss, bin_leq, bin_gtr, bin_geq, natL_nat, natL_zero, natL_one, natL_two, Nat.zero_mul, List.any_cons, List.any_nil, Bool.or_false, Bool.false_or, Bool.true_or, Bool.or_true, Bool.and_true, Bool.true_and, Bool.and_false, Bool.false_and, Bool.not_true, Bool.not_false, Nat.reduceBEq, Nat.reduceEqDiff, decide_true, decide_false, cond_true, cond_false, List.filter_nil, List.filter_cons, Nat.reduceAdd, Nat.reduceLeDiff, reduceCtorEq, List.length_nil, List.length_cons, Nat.mul_one, if_true, if_false, Bool.false_eq_true, eq_self, and_true, true_and, retL, resultsL, resAllL, resOfL, List.append_nil, List.nil_append, List.cons_append, true_or, or_true, false_or, or_false, false_and, and_false, not_true_eq_false, not_false_eq_true, ne_eq, unL, trim_nil, views_pures, LV.pures, LV.pure, freeze, Nat.reduceDiv, Int.reduceEq, Int.reduceLT, Int.reduceLE, Int.natCast_zero, LV.cells, allocL, List.getElem?_cons_zero, List.getElem?_cons_succ, storeL, spliceL, List.take_zero, List.take_succ_cons, List.drop_zero, List.drop_succ_cons, List.drop_nil, List.take_nil, Nat.le_refl, Nat.reduceMul, List.set_cons_zero, List.set_cons_succ, LV.scalar, List.all_cons, List.all_nil, Nat.lt_add_one, Nat.zero_lt_one, Nat.reduceLT, Nat.lt_irrefl, fillL, List.length_append, foldIntL, kind_beq, pures_int, solids_int, plains_int, unders_int, scalars_int, show ((k : Int) < (s.length : Int)) by omega, pricedS_c, bits_shl (show k < 64 by omega), gc, w, c, GV_nil, ap, trim, belowM, envVals, LV.unders, LV.under, wrap_succ (show k + 1 < 9223372036854775808 by omega), h]
        rfl
      · rw [if_neg c]
        have c' : wholeV sR (fa (2 ^ k)) (fb (2 ^ k)) s = wholeV sR 0 0 s := by simpa using c
        obtain ⟨D', h⟩ := ih (k + 1) [] D (by omega) (by simp) hD
        refine ⟨D', ?_⟩
        simp only [QM, if_true, List.nil_append] at h ⊢
        simp only [post_asked.B0, beqT, beqF, exF_seq, exF_region, exF_block, exF_cond, exF_ret, exF_exit, exF_skip, runL, wantL, stepL, evL, evC, LEnv.at, putL, loadFine, loadL, cellsAt, Trk.putNew, Trk.up, Trk.touch, Trk.gives, Trk.calm, Trk.hit, opdsOf, Trk.fresh, LEnv.keep, LEnv.ofFrom, List.map_cons, List.map_nil, nbeq, nble, nblt, ofAV, ofAVs, lenL, bin_add, bin_sub, bin_mul, bin_eql, bin_neq, bin_lss, bin_leq, bin_gtr, bin_geq, natL_nat, natL_zero, natL_one, natL_two, Nat.zero_mul, List.any_cons, List.any_nil, Bool.or_false, Bool.false_or, Bool.true_or, Bool.or_true, Bool.and_true, Bool.true_and, Bool.and_false, Bool.false_and, Bool.not_true, Bool.not_false, Nat.reduceBEq, Nat.reduceEqDiff, decide_true, decide_false, cond_true, cond_false, List.filter_nil, List.filter_cons, Nat.reduceAdd, Nat.reduceLeDiff, reduceCtorEq, List.length_nil, List.length_cons, Nat.mul_one, if_true, if_false, Bool.false_eq_true, eq_self, and_true, true_and, retL, resultsL, resAllL, resOfL, List.append_nil, List.nil_append, List.cons_append, true_or, or_true, false_or, or_false, false_and, and_false, not_true_eq_false, not_false_eq_true, ne_eq, unL, trim_nil, views_pures, LV.pures, LV.pure, freeze, Nat.reduceDiv, Int.reduceEq, Int.reduceLT, Int.reduceLE, Int.natCast_zero, LV.cells, allocL, List.getElem?_cons_zero, List.getElem?_cons_succ, storeL, spliceL, List.take_zero, List.take_succ_cons, List.drop_zero, List.drop_succ_cons, List.drop_nil, List.take_nil, Nat.le_refl, Nat.reduceMul, List.set_cons_zero, List.set_cons_succ, LV.scalar, List.all_cons, List.all_nil, Nat.lt_add_one, Nat.zero_lt_one, Nat.reduceLT, Nat.lt_irrefl, fillL, List.length_append, foldIntL, kind_beq, pures_int, solids_int, plains_int, unders_int, scalars_int, show ((k : Int) < (s.length : Int)) by omega, pricedS_c, bits_shl (show k < 64 by omega), gc, w, c', GV_nil, trim, belowM, envVals, LV.unders, LV.under, wrap_succ (show k + 1 < 9223372036854775808 by omega)]
        exact h
    · have hcl : (ci l).length = l.length := by simp
      have hlp : 0 < l.length := List.length_pos_iff.2 hnil
      have hcn : ci l ≠ [] := by intro c; apply hnil; simpa using c
      have gc := G.c (2 ^ k) [⟨pc n_post_same [] 0 0, true⟩, D, ⟨(ci l).map (LV.int .i64), true⟩, ⟨pc n_post_same [] 0 0, true⟩] 3 rfl
      have w := whole_p (fa (2 ^ k)) (fb (2 ^ k)) la lb nl ex sz K (same_ok s.length) [⟨pc n_post_same [] 0 0, true⟩, D, ⟨(ci l).map (LV.int .i64), true⟩, ⟨pc n_post_same [] (fa (2 ^ k)) (fb (2 ^ k)), true⟩] 3 true rfl
      simp only [List.set_cons_succ, List.set_cons_zero] at gc
      have hGV : ∀ l' : List Nat, l' ≠ [] → GV 2 (ci l') = .sl 2 0 l'.length l'.length 1 1 l'.length := fun l' h => by
        have : ci l' ≠ [] := by intro c; apply h; simpa using c
        simp [GV, this, List.length_map, h]
      have hu : ∀ l' : List Nat, LV.unders 3 ((ci l').map (LV.int .i64)) = true := fun l' => unders_int .i64 3 _
      rw [post_asked.L0_eq]
      simp only [QM, if_neg hnil]
      by_cases c : wholeV sR (fa (2 ^ k)) (fb (2 ^ k)) s ≠ wholeV sR 0 0 s
      · rw [if_pos c]
        have ap := append_c [⟨pc n_post_same [] 0 0, true⟩, D] [⟨pc n_post_same [] (fa (2 ^ k)) (fb (2 ^ k)), true⟩] 1 8 l.length ((ci l).map (LV.int .i64)) [.int .i64 (k : Int)] true (by simp) rfl rfl (by omega) (by omega) (.inl (by omega))
        have e2 : (ci l).map (LV.int .i64) ++ [.int .i64 (k : Int)] = (ci (l ++ [k])).map (LV.int .i64) := by simp
        rw [e2] at ap
        simp only [GMc, GVc, if_neg (show ¬ l.length = 0 by omega), if_neg (show ¬ l.length + 1 = 0 by omega), List.cons_append, List.nil_append, List.length_cons, List.length_nil, Nat.reduceAdd, Nat.mul_one] at ap
        obtain ⟨D', h⟩ := ih (k + 1) (l ++ [k]) D (by omega) (by simp; omega) hD
        refine ⟨D', ?_⟩
        have hne2 : l ++ [k] ≠ [] := by simp
        rw [hGV _ hne2] at h
        simp only [QM, if_neg hne2, List.length_append, List.length_cons, List.length_nil, Nat.zero_add] at h
        have h2 : l ++ [k] ++ askL s fa fb (k + 1) n = l ++ ([k] ++ askL s fa fb (k + 1) n) := by simp
        have h3 : ¬ (l ++ [k] ++ askL s fa fb (k + 1) n = []) := by simp
        rw [hGV l hnil]
        rw [h2] at h h3
        simp only [if_neg h3] at h ⊢
        simp only [post_asked.B0, beqT, beqF, exF_seq, exF_region, exF_block, exF_cond, exF_ret, exF_exit, exF_skip, runL, wantL, stepL, evL, evC, LEnv.at, putL, loadFine, loadL, cellsAt, Trk.putNew, Trk.up, Trk.touch, Trk.gives, Trk.calm, Trk.hit, opdsOf, Trk.fresh, LEnv.keep, LEnv.ofFrom, List.map_cons, List.map_nil, nbeq, nble, nblt, ofAV, ofAVs, lenL, bin_add, bin_sub, bin_mul, bin_eql, bin_neq, bin_lss, bin_leq, bin_gtr, bin_geq, natL_nat, natL_zero, natL_one, natL_two, Nat.zero_mul, List.any_cons, List.any_nil, Bool.or_false, Bool.false_or, Bool.true_or, Bool.or_true, Bool.and_true, Bool.true_and, Bool.and_false, Bool.false_and, Bool.not_true, Bool.not_false, Nat.reduceBEq, Nat.reduceEqDiff, decide_true, decide_false, cond_true, cond_false, List.filter_nil, List.filter_cons, Nat.reduceAdd, Nat.reduceLeDiff, reduceCtorEq, List.length_nil, List.length_cons, Nat.mul_one, if_true, if_false, Bool.false_eq_true, eq_self, and_true, true_and, retL, resultsL, resAllL, resOfL, List.append_nil, List.nil_append, List.cons_append, true_or, or_true, false_or, or_false, false_and, and_false, not_true_eq_false, not_false_eq_true, ne_eq, unL, trim_nil, views_pures, LV.pures, LV.pure, freeze, Nat.reduceDiv, Int.reduceEq, Int.reduceLT, Int.reduceLE, Int.natCast_zero, LV.cells, allocL, List.getElem?_cons_zero, List.getElem?_cons_succ, storeL, spliceL, List.take_zero, List.take_succ_cons, List.drop_zero, List.drop_succ_cons, List.drop_nil, List.take_nil, Nat.le_refl, Nat.reduceMul, List.set_cons_zero, List.set_cons_succ, LV.scalar, List.all_cons, List.all_nil, Nat.lt_add_one, Nat.zero_lt_one, Nat.reduceLT, Nat.lt_irrefl, fillL, foldIntL, kind_beq, pures_int, solids_int, plains_int, unders_int, scalars_int, show ((k : Int) < (s.length : Int)) by omega, pricedS_c, bits_shl (show k < 64 by omega), gc, w, c, ap, trim, belowM, envVals, LV.unders, LV.under, hD, hu, wrap_succ (show k + 1 < 9223372036854775808 by omega)]
        simp only [beqT, beqF, exF_seq, exF_region, exF_block, exF_cond, exF_ret, exF_exit, exF_skip, runL, wantL, stepL, evL, evC, LEnv.at, putL, loadFine, loadL, cellsAt, Trk.putNew, Trk.up, Trk.touch, Trk.gives, Trk.calm, Trk.hit, opdsOf, Trk.fresh, LEnv.keep, LEnv.ofFrom, List.map_cons, List.map_nil, nbeq, nble, nblt, ofAV, ofAVs, lenL, bin_add, bin_sub, bin_mul, bin_eql, bin_neq, bin_lss, bin_leq, bin_gtr, bin_geq, natL_nat, natL_zero, natL_one, natL_two, Nat.zero_mul, List.any_cons, List.any_nil, Bool.or_false, Bool.false_or, Bool.true_or, Bool.or_true, Bool.and_true, Bool.true_and, Bool.and_false, Bool.false_and, Bool.not_true, Bool.not_false, Nat.reduceBEq, Nat.reduceEqDiff, decide_true, decide_false, cond_true, cond_false, List.filter_nil, List.filter_cons, Nat.reduceAdd, Nat.reduceLeDiff, reduceCtorEq, List.length_nil, List.length_cons, Nat.mul_one, if_true, if_false, Bool.false_eq_true, eq_self, and_true, true_and, retL, resultsL, resAllL, resOfL, List.append_nil, List.nil_append, List.cons_append, true_or, or_true, false_or, or_false, false_and, and_false, not_true_eq_false, not_false_eq_true, ne_eq, unL, trim_nil, views_pures, LV.pures, LV.pure, freeze, Nat.reduceDiv, Int.reduceEq, Int.reduceLT, Int.reduceLE, Int.natCast_zero, LV.cells, allocL, List.getElem?_cons_zero, List.getElem?_cons_succ, storeL, spliceL, List.take_zero, List.take_succ_cons, List.drop_zero, List.drop_succ_cons, List.drop_nil, List.take_nil, Nat.le_refl, Nat.reduceMul, List.set_cons_zero, List.set_cons_succ, LV.scalar, List.all_cons, List.all_nil, Nat.lt_add_one, Nat.zero_lt_one, Nat.reduceLT, Nat.lt_irrefl, fillL, foldIntL, kind_beq, pures_int, solids_int, plains_int, unders_int, scalars_int] at h
        exact h
      · rw [if_neg c]
        have c' : wholeV sR (fa (2 ^ k)) (fb (2 ^ k)) s = wholeV sR 0 0 s := by simpa using c
        obtain ⟨D', h⟩ := ih (k + 1) l D (by omega) (by omega) hD
        refine ⟨D', ?_⟩
        rw [hGV l hnil] at h ⊢
        have h3 : ¬ (l ++ askL s fa fb (k + 1) n = []) := by simp [hnil]
        simp only [QM, if_neg hnil, if_neg h3, List.nil_append] at h ⊢
        simp only [post_asked.B0, beqT, beqF, exF_seq, exF_region, exF_block, exF_cond, exF_ret, exF_exit, exF_skip, runL, wantL, stepL, evL, evC, LEnv.at, putL, loadFine, loadL, cellsAt, Trk.putNew, Trk.up, Trk.touch, Trk.gives, Trk.calm, Trk.hit, opdsOf, Trk.fresh, LEnv.keep, LEnv.ofFrom, List.map_cons, List.map_nil, nbeq, nble, nblt, ofAV, ofAVs, lenL, bin_add, bin_sub, bin_mul, bin_eql, bin_neq, bin_lss, bin_leq, bin_gtr, bin_geq, natL_nat, natL_zero, natL_one, natL_two, Nat.zero_mul, List.any_cons, List.any_nil, Bool.or_false, Bool.false_or, Bool.true_or, Bool.or_true, Bool.and_true, Bool.true_and, Bool.and_false, Bool.false_and, Bool.not_true, Bool.not_false, Nat.reduceBEq, Nat.reduceEqDiff, decide_true, decide_false, cond_true, cond_false, List.filter_nil, List.filter_cons, Nat.reduceAdd, Nat.reduceLeDiff, reduceCtorEq, List.length_nil, List.length_cons, Nat.mul_one, if_true, if_false, Bool.false_eq_true, eq_self, and_true, true_and, retL, resultsL, resAllL, resOfL, List.append_nil, List.nil_append, List.cons_append, true_or, or_true, false_or, or_false, false_and, and_false, not_true_eq_false, not_false_eq_true, ne_eq, unL, trim_nil, views_pures, LV.pures, LV.pure, freeze, Nat.reduceDiv, Int.reduceEq, Int.reduceLT, Int.reduceLE, Int.natCast_zero, LV.cells, allocL, List.getElem?_cons_zero, List.getElem?_cons_succ, storeL, spliceL, List.take_zero, List.take_succ_cons, List.drop_zero, List.drop_succ_cons, List.drop_nil, List.take_nil, Nat.le_refl, Nat.reduceMul, List.set_cons_zero, List.set_cons_succ, LV.scalar, List.all_cons, List.all_nil, Nat.lt_add_one, Nat.zero_lt_one, Nat.reduceLT, Nat.lt_irrefl, fillL, foldIntL, kind_beq, pures_int, solids_int, plains_int, unders_int, scalars_int, show ((k : Int) < (s.length : Int)) by omega, pricedS_c, bits_shl (show k < 64 by omega), gc, w, c', trim, belowM, envVals, LV.unders, LV.under, hD, hu, wrap_succ (show k + 1 < 9223372036854775808 by omega)]
        exact h
end Go.Am.Post

/-
  What functions of chapter 12 compute, 17: places that are always, or never, in the smallest lists; the law of counts.
-/
set_option linter.unusedVariables false
set_option linter.unusedSimpArgs false
set_option maxRecDepth 10000
namespace Go.Am.Post
open Go.Am.G

theorem view_qm (D : LBlk) (l : List Nat) (e : Int) : view 40 (QM D l) (.tup [GV 2 (ci l), .int .i64 e]) = some (.tup [RLn l, .int .i64 e], if ci l = [] then [] else [2]) := by
  refine view_gv2 (QM D l) 2 (ci l) (.int .i64 e) rfl true fun h => ?_
  have : l ≠ [] := by intro c; apply h; simp [c]
  simp [QM, this]
def askV (s : List Int) (fa fb : Nat → Nat) : List Nat := if chkS s = 0 then askL s fa fb 0 s.length else []
theorem asked_c (g : Nat) (fa fb : Nat → Nat) (G : AskOk g fa fb) (nl ex : Bool) (sz : Nat) (s : List Int) (hs : s.length < 1000000) (m : LMem) :
    clF LP n_post_asked [IL nl ex sz s, .func g [] []] m = some (.P, .tup [RLn (askV s fa fb), .int .i64 (chkS s)], m) := by
  have hc := fun m => check_c nl ex sz s hs m
  unfold askV
  by_cases h1 : chkS s = 0
  · have K := okS_of h1
    obtain ⟨D', h⟩ := asked_loop g fa fb G nl ex sz K s.length 0 [] ⟨[], true⟩ (by omega) (by simp) rfl
    have w0 := whole_p 0 0 (by omega) (by omega) nl ex sz K (same_ok s.length) [⟨pc n_post_same [] 0 0, true⟩] 0 true rfl
    have h : exF LP post_asked.L0 [(0, IL nl ex sz s), (1, .func g [] []), (7, .int .i64 (wholeV sR 0 0 s)), (8, .lst true true 0 0 []), (20, .int .i64 (s.length : Int)), (21, .int .i64 0)] [⟨pc n_post_same [] 0 0, true⟩] = some (.exit 0, [(8, GV 2 (ci (askL s fa fb 0 s.length)))], QM D' (askL s fa fb 0 s.length)) := h
    rw [if_pos h1]
    refine call_Pv lp_post_asked rfl (by simp [LV.pures, LV.pure]) ?_ (view_qm D' (askL s fa fb 0 s.length) (chkS s)) m
    simp only [post_asked, post_asked.B, beqT, beqF, exF_seq, exF_region, exF_block, exF_cond, exF_ret, exF_exit, exF_skip, runL, wantL, stepL, evL, evC, LEnv.at, putL, loadFine, loadL, cellsAt, Trk.putNew, Trk.up, Trk.touch, Trk.gives, Trk.calm, Trk.hit, opdsOf, Trk.fresh, LEnv.keep, LEnv.ofFrom, List.map_cons, List.map_nil, nbeq, nble, nblt, ofAV, ofAVs, lenL, bin_add, bin_sub, bin_mul, bin_eql, bin_neq, bin_lss, bin_leq, bin_gtr, bin_geq, natL_nat, natL_zero, natL_one, natL_two, Nat.zero_mul, List.any_cons, List.any_nil, Bool.or_false, Bool.false_or, Bool.true_or, Bool.or_true, Bool.and_true, Bool.true_and, Bool.and_false, Bool.false_and, Bool.not_true, Bool.not_false, Nat.reduceBEq, Nat.reduceEqDiff, decide_true, decide_false, cond_true, cond_false, List.filter_nil, List.filter_cons, Nat.reduceAdd, Nat.reduceLeDiff, reduceCtorEq, List.length_nil, List.length_cons, Nat.mul_one, if_true, if_false, Bool.false_eq_true, eq_self, and_true, true_and, retL, resultsL, resAllL, resOfL, List.append_nil, List.nil_append, List.cons_append, true_or, or_true, false_or, or_false, false_and, and_false, not_true_eq_false, not_false_eq_true, ne_eq, unL, trim_nil, views_pures, LV.pures, LV.pure, freeze, Nat.reduceDiv, Int.reduceEq, Int.reduceLT, Int.reduceLE, Int.natCast_zero, LV.cells, allocL, List.getElem?_cons_zero, List.getElem?_cons_succ, storeL, spliceL, List.take_zero, List.take_succ_cons, List.drop_zero, List.drop_succ_cons, List.drop_nil, List.take_nil, Nat.le_refl, Nat.reduceMul, List.set_cons_zero, List.set_cons_succ, LV.scalar, List.all_cons, List.all_nil, Nat.lt_add_one, Nat.zero_lt_one, Nat.reduceLT, Nat.lt_irrefl, fillL, List.length_append, foldIntL, kind_beq, pures_int, solids_int, plains_int, unders_int, scalars_int, hc, h1, pricedS_c, w0, h]
  · rw [if_neg h1]
    refine call_P lp_post_asked rfl (by simp [LV.pures, LV.pure]) (m1 := []) ?_ (by simp [LV.pures, LV.pure]) m
    simp only [post_asked, post_asked.B, beqT, beqF, exF_seq, exF_region, exF_block, exF_cond, exF_ret, exF_exit, exF_skip, runL, wantL, stepL, evL, evC, LEnv.at, putL, loadFine, loadL, cellsAt, Trk.putNew, Trk.up, Trk.touch, Trk.gives, Trk.calm, Trk.hit, opdsOf, Trk.fresh, LEnv.keep, LEnv.ofFrom, List.map_cons, List.map_nil, nbeq, nble, nblt, ofAV, ofAVs, lenL, bin_add, bin_sub, bin_mul, bin_eql, bin_neq, bin_lss, bin_leq, bin_gtr, bin_geq, natL_nat, natL_zero, natL_one, natL_two, Nat.zero_mul, List.any_cons, List.any_nil, Bool.or_false, Bool.false_or, Bool.true_or, Bool.or_true, Bool.and_true, Bool.true_and, Bool.and_false, Bool.false_and, Bool.not_true, Bool.not_false, Nat.reduceBEq, Nat.reduceEqDiff, decide_true, decide_false, cond_true, cond_false, List.filter_nil, List.filter_cons, Nat.reduceAdd, Nat.reduceLeDiff, reduceCtorEq, List.length_nil, List.length_cons, Nat.mul_one, if_true, if_false, Bool.false_eq_true, eq_self, and_true, true_and, retL, resultsL, resAllL, resOfL, List.append_nil, List.nil_append, List.cons_append, true_or, or_true, false_or, or_false, false_and, and_false, not_true_eq_false, not_false_eq_true, ne_eq, unL, trim_nil, views_pures, LV.pures, LV.pure, freeze, Nat.reduceDiv, Int.reduceEq, Int.reduceLT, Int.reduceLE, Int.natCast_zero, LV.cells, allocL, List.getElem?_cons_zero, List.getElem?_cons_succ, storeL, spliceL, List.take_zero, List.take_succ_cons, List.drop_zero, List.drop_succ_cons, List.drop_nil, List.take_nil, Nat.le_refl, Nat.reduceMul, List.set_cons_zero, List.set_cons_succ, LV.scalar, List.all_cons, List.all_nil, Nat.lt_add_one, Nat.zero_lt_one, Nat.reduceLT, Nat.lt_irrefl, fillL, List.length_append, foldIntL, kind_beq, pures_int, solids_int, plains_int, unders_int, scalars_int, hc, h1]
    rfl
theorem always_ok : AskOk n_post_Always_1 (fun _ => 0) (fun x => x) := ⟨fun _ _ => by omega, fun _ h => h, fun x m j h => by
  have hl : j < m.length := by rw [List.getElem?_eq_some_iff] at h; exact h.1
  rw [call_W lp_post_Always_1 rfl (v := .tup []) (m1 := m.set j ⟨pc n_post_same [] 0 x, true⟩)]
  · rw [trim_le _ _ _ (by simp)]
  · simp only [post_Always_1, post_Always_1.B, beqT, beqF, exF_seq, exF_region, exF_block, exF_cond, exF_ret, exF_exit, exF_skip, runL, wantL, stepL, evL, evC, LEnv.at, putL, loadFine, loadL, cellsAt, Trk.putNew, Trk.up, Trk.touch, Trk.gives, Trk.calm, Trk.hit, opdsOf, Trk.fresh, LEnv.keep, LEnv.ofFrom, List.map_cons, List.map_nil, nbeq, nble, nblt, ofAV, ofAVs, lenL, bin_add, bin_sub, bin_mul, bin_eql, bin_neq, bin_lss, bin_leq, bin_gtr, bin_geq, natL_nat, natL_zero, natL_one, natL_two, Nat.zero_mul, List.any_cons, List.any_nil, Bool.or_false, Bool.false_or, Bool.true_or, Bool.or_true, Bool.and_true, Bool.true_and, Bool.and_false, Bool.false_and, Bool.not_true, Bool.not_false, Nat.reduceBEq, Nat.reduceEqDiff, decide_true, decide_false, cond_true, cond_false, List.filter_nil, List.filter_cons, Nat.reduceAdd, Nat.reduceLeDiff, reduceCtorEq, List.length_nil, List.length_cons, Nat.mul_one, if_true, if_false, Bool.false_eq_true, eq_self, and_true, true_and, retL, resultsL, resAllL, resOfL, List.append_nil, List.nil_append, List.cons_append, true_or, or_true, false_or, or_false, false_and, and_false, not_true_eq_false, not_false_eq_true, ne_eq, unL, trim_nil, views_pures, LV.pures, LV.pure, freeze, Nat.reduceDiv, Int.reduceEq, Int.reduceLT, Int.reduceLE, Int.natCast_zero, LV.cells, allocL, List.getElem?_cons_zero, List.getElem?_cons_succ, storeL, spliceL, List.take_zero, List.take_succ_cons, List.drop_zero, List.drop_succ_cons, List.drop_nil, List.take_nil, Nat.le_refl, Nat.reduceMul, List.set_cons_zero, List.set_cons_succ, LV.scalar, List.all_cons, List.all_nil, Nat.lt_add_one, Nat.zero_lt_one, Nat.reduceLT, Nat.lt_irrefl, fillL, List.length_append, foldIntL, kind_beq, pures_int, solids_int, plains_int, unders_int, scalars_int, h]
    rfl⟩
theorem alwaysP_c (nl ex : Bool) (sz : Nat) (s : List Int) (hs : s.length < 1000000) (m : LMem) : clF LP n_post_Always [IL nl ex sz s] m = some (.P, .tup [RLn (askV s (fun _ => 0) (fun x => x)), .int .i64 (chkS s)], m) := by
  refine call_P lp_post_Always rfl (by simp [LV.pures, LV.pure]) (m1 := []) ?_ (by simp [LV.pures, LV.pure]) m
  simp only [post_Always, post_Always.B, beqT, beqF, exF_seq, exF_region, exF_block, exF_cond, exF_ret, exF_exit, exF_skip, runL, wantL, stepL, evL, evC, LEnv.at, putL, loadFine, loadL, cellsAt, Trk.putNew, Trk.up, Trk.touch, Trk.gives, Trk.calm, Trk.hit, opdsOf, Trk.fresh, LEnv.keep, LEnv.ofFrom, List.map_cons, List.map_nil, nbeq, nble, nblt, ofAV, ofAVs, lenL, bin_add, bin_sub, bin_mul, bin_eql, bin_neq, bin_lss, bin_leq, bin_gtr, bin_geq, natL_nat, natL_zero, natL_one, natL_two, Nat.zero_mul, List.any_cons, List.any_nil, Bool.or_false, Bool.false_or, Bool.true_or, Bool.or_true, Bool.and_true, Bool.true_and, Bool.and_false, Bool.false_and, Bool.not_true, Bool.not_false, Nat.reduceBEq, Nat.reduceEqDiff, decide_true, decide_false, cond_true, cond_false, List.filter_nil, List.filter_cons, Nat.reduceAdd, Nat.reduceLeDiff, reduceCtorEq, List.length_nil, List.length_cons, Nat.mul_one, if_true, if_false, Bool.false_eq_true, eq_self, and_true, true_and, retL, resultsL, resAllL, resOfL, List.append_nil, List.nil_append, List.cons_append, true_or, or_true, false_or, or_false, false_and, and_false, not_true_eq_false, not_false_eq_true, ne_eq, unL, trim_nil, views_pures, LV.pures, LV.pure, freeze, Nat.reduceDiv, Int.reduceEq, Int.reduceLT, Int.reduceLE, Int.natCast_zero, LV.cells, allocL, List.getElem?_cons_zero, List.getElem?_cons_succ, storeL, spliceL, List.take_zero, List.take_succ_cons, List.drop_zero, List.drop_succ_cons, List.drop_nil, List.take_nil, Nat.le_refl, Nat.reduceMul, List.set_cons_zero, List.set_cons_succ, LV.scalar, List.all_cons, List.all_nil, Nat.lt_add_one, Nat.zero_lt_one, Nat.reduceLT, Nat.lt_irrefl, fillL, List.length_append, foldIntL, kind_beq, pures_int, solids_int, plains_int, unders_int, scalars_int, asked_c _ _ _ always_ok _ _ _ _ hs]
/-! ### The reference's -/
def hasN (L : List (List Nat)) (p : Nat) : Nat := (L.filter fun l => decide (p ∈ l)).length
def oftL (L : List (List Nat)) (many k n : Nat) : List Nat := (List.range' k n).filter fun p => decide (hasN L p = many)
/-- What is asked for, by lists. -/
theorem always_eq {s : List Int} (K : OkS s) : askL s (fun _ => 0) (fun x => x) 0 s.length = oftL (smallS s) (smallS s).length 0 s.length := by
  unfold askL oftL
  refine List.filter_congr fun i hi => ?_
  rw [List.mem_range'] at hi
  obtain ⟨j, hj, rfl⟩ := hi
  rw [decide_eq_decide]
  have hb := best_le K (fun _ => 1) (fun _ _ => by omega)
  have e0 : wholeV sR 0 0 s = (bestC s (fun _ => 1) : Int) := by
    rw [whole_iff K n_post_same [] (fun _ => 1) (fun _ _ => by omega) 0 0 _ (by omega), ← best_ok s (fun _ => 1)]
    exact wh_congr _ _ _ (fun v _ => Nat.zero_testBit v) (fun v _ => Nat.zero_testBit v)
  rw [e0, ne_eq, whole_iff K n_post_same [] (fun _ => 1) (fun _ _ => by omega) _ _ _ (by omega), wh_some]
  have hmin := ((wh_some _ _ _ _ _ _).1 (best_ok s (fun _ => 1))).2
  have hf : hasN (smallS s) (0 + 1 * j) = (smallS s).length ↔ ∀ l ∈ smallS s, 0 + 1 * j ∈ l := by
    unfold hasN
    rw [List.length_filter_eq_length_iff]
    simp
  rw [hf]
  constructor
  · intro h l hl
    refine Classical.byContradiction fun c => h ⟨⟨l, (List.mem_filter.1 hl).1, ⟨?_, fun v _ hv => by simp at hv, fun v hv hvl => ?_⟩, ?_⟩, fun S hS ⟨h1, _, _⟩ => hmin S hS ⟨h1, by simp, by simp⟩⟩
    · have := (List.mem_filter.1 hl).2; simp only [goodC, Bool.and_eq_true] at this; exact this.1
    · rw [Nat.testBit_two_pow, decide_eq_false_iff_not]
      intro e; rw [← e] at hvl; exact c hvl
    · have := (List.mem_filter.1 hl).2; simp only [goodC, Bool.and_eq_true, decide_eq_true_eq] at this; exact this.2
  · rintro h ⟨⟨S, hS, ⟨h1, _, h3⟩, h4⟩, _⟩
    have hm : S ∈ smallS s := List.mem_filter.2 ⟨hS, by simp [goodC, h1, h4]⟩
    have := h3 (0 + 1 * j) (by omega) (h S hm)
    rw [Nat.testBit_two_pow] at this
    simp at this
end Go.Am.Post

/-
  Plain: in a tree the fewest posts that guard are as many as places can be apart; a place more; smaller prices. No statement of the seat is proved here.
-/
set_option linter.unusedVariables false
set_option linter.unusedSimpArgs false
namespace Go.Am.Post

/-- A place is at hand. -/
def near (par : Nat → Nat) (v w : Nat) : Prop := v = w ∨ adj par v w = true
theorem adj_iff (par : Nat → Nat) (v u : Nat) : adj par v u = true ↔ (v ≠ 0 ∧ u = par v) ∨ (u ≠ 0 ∧ par u = v) := by
  simp [adj]
theorem dom_iff (par : Nat → Nat) (n : Nat) (S : List Nat) : dom par n S = true ↔ ∀ v, v < n → ∃ u ∈ S, near par v u := by
  rw [dom, allN_iff]
  constructor
  · intro h v hv
    have := h v hv
    unfold okS at this
    by_cases c : v ∈ S
    · exact ⟨v, c, .inl rfl⟩
    · rw [if_neg c] at this
      simp only [Bool.not_false, Bool.and_true, List.any_eq_true] at this
      obtain ⟨u, hu, e⟩ := this
      exact ⟨u, hu, .inr e⟩
  · intro h v hv
    obtain ⟨u, hu, e⟩ := h v hv
    unfold okS
    by_cases c : v ∈ S
    · rw [if_pos c]; rfl
    · rw [if_neg c]
      simp only [Bool.not_false, Bool.and_true, List.any_eq_true]
      rcases e with e | e
      · exact absurd (e ▸ hu) c
      · exact ⟨u, hu, e⟩
def far (par : Nat → Nat) (a b : Nat) : Prop := ∀ w, ¬ (near par a w ∧ near par b w)
/-- Places taken from the last one on: the place behind one that is not guarded gets a post. -/
theorem greedy (par : Nat → Nat) (hp : ∀ v, v ≠ 0 → par v < v) (n d : Nat) : ∀ k, k + d = n → ∃ D P : List Nat, D.length ≤ P.length ∧ (∀ x ∈ D, x < n) ∧ (∀ v, k ≤ v → v < n → ∃ u ∈ D, near par v u) ∧ (∀ p ∈ P, p < n ∧ (if p = 0 then 0 else par p) ∈ D) ∧ up k P ∧ P.Pairwise (far par) := by
  induction d with
  | zero =>
    intro k hk
    exact ⟨[], [], by simp, by simp, fun v h1 h2 => by omega, by simp, trivial, List.Pairwise.nil⟩
  | succ d ih =>
    intro k hk
    obtain ⟨D, P, h1, h2, h3, h4, h5, h6⟩ := ih (k + 1) (by omega)
    by_cases c : ∃ u ∈ D, near par k u
    · refine ⟨D, P, h1, h2, fun v hv hn => ?_, h4, up_le (by omega) h5, h6⟩
      by_cases e : v = k
      · subst e; exact c
      · exact h3 v (by omega) hn
    · have hpk : (if k = 0 then 0 else par k) ≤ k := by
        by_cases e : k = 0
        · rw [if_pos e]; omega
        · rw [if_neg e]; have := hp k e; omega
      have hnk : near par k (if k = 0 then 0 else par k) := by
        by_cases e : k = 0
        · rw [if_pos e]; exact .inl e
        · rw [if_neg e]; right; rw [adj_iff]; exact .inl ⟨e, rfl⟩
      refine ⟨(if k = 0 then 0 else par k) :: D, k :: P, by simp; omega, ?_, ?_, ?_, ⟨Nat.le_refl _, h5⟩, ?_⟩
      · intro x hx
        rcases List.mem_cons.1 hx with rfl | hx
        · omega
        · exact h2 x hx
      · intro v hv hn
        by_cases e : v = k
        · subst e; exact ⟨_, by simp, hnk⟩
        · obtain ⟨u, hu, q⟩ := h3 v (by omega) hn
          exact ⟨u, by simp [hu], q⟩
      · intro p hpp
        rcases List.mem_cons.1 hpp with rfl | hpp
        · exact ⟨by omega, by simp⟩
        · have := h4 p hpp
          exact ⟨this.1, by simp [this.2]⟩
      · rw [List.pairwise_cons]
        refine ⟨fun p hpp w hw => ?_, h6⟩
        have hge := up_ge h5 p hpp
        obtain ⟨hpn, hq⟩ := h4 p hpp
        rw [if_neg (by omega)] at hq
        have hpp' := hp p (by omega)
        have no : ∀ u ∈ D, ¬ near par k u := fun u hu q => c ⟨u, hu, q⟩
        obtain ⟨a, b⟩ := hw
        rcases b with rfl | b
        · -- the place itself
          rcases a with a | a
          · omega
          · rw [adj_iff] at a
            rcases a with ⟨a1, a2⟩ | ⟨a1, a2⟩
            · have := hp k a1; omega
            · exact no _ hq (.inl a2.symm)
        · rw [adj_iff] at b
          rcases b with ⟨b1, b2⟩ | ⟨b1, b2⟩
          · exact no _ hq (b2 ▸ a)
          · have hwp := hp w b1
            rcases a with a | a
            · omega
            · rw [adj_iff] at a
              rcases a with ⟨a1, a2⟩ | ⟨a1, a2⟩
              · have := hp k a1; omega
              · omega
theorem len_le : ∀ (A B : List Nat), A.Nodup → (∀ x ∈ A, x ∈ B) → A.length ≤ B.length
  | [], B, _, _ => Nat.zero_le _
  | a :: r, B, hn, h => by
    obtain ⟨h1, h2⟩ := List.nodup_cons.1 hn
    have ha := h a (by simp)
    have ih := len_le r (B.erase a) h2 fun x hx => by
      have hne : x ≠ a := fun e => h1 (e ▸ hx)
      exact (List.mem_erase_of_ne hne).2 (h x (by simp [hx]))
    rw [List.length_erase_of_mem ha] at ih
    have : 0 < B.length := List.length_pos_of_mem ha
    simp only [List.length_cons]
    omega
theorem up_nodup : ∀ {l : List Nat} {i : Nat}, up i l → l.Nodup
  | [], _, _ => List.nodup_nil
  | x :: r, i, h => List.nodup_cons.2 ⟨fun c => by have := up_ge h.2 x c; omega, up_nodup h.2⟩
/-- Places that are apart are never more than posts that guard. -/
theorem weak (par : Nat → Nat) (n : Nat) {S P : List Nat} (hS : dom par n S = true) (hP : ∀ p ∈ P, p < n) (hf : P.Pairwise (far par)) : P.length ≤ S.length := by
  rw [dom_iff] at hS
  have hch : ∃ f : Nat → Nat, ∀ p, p < n → f p ∈ S ∧ near par p (f p) := by
    refine ⟨fun p => if h : p < n then Classical.choose (hS p h) else 0, fun p h => ?_⟩
    simp only [h, dif_pos]
    exact Classical.choose_spec (hS p h)
  obtain ⟨f, hf2⟩ := hch
  have hn : (P.map f).Nodup := by
    rw [List.Nodup, List.pairwise_map]
    refine List.Pairwise.imp_of_mem ?_ hf
    intro a b ha hb hab e
    exact hab (f a) ⟨(hf2 a (hP a ha)).2, e ▸ (hf2 b (hP b hb)).2⟩
  have := len_le (P.map f) S hn fun x hx => by
    obtain ⟨p, hp, rfl⟩ := List.mem_map.1 hx
    exact (hf2 p (hP p hp)).1
  simpa using this
/-- A set as an ascending list. -/
def srt (n : Nat) (D : List Nat) : List Nat := (List.range n).filter fun x => decide (x ∈ D)
theorem srt_asc (n : Nat) (D : List Nat) : srt n D ∈ asc 0 n := by
  have := (mem_asc n 0 _).1 (range_asc n)
  refine (mem_asc n 0 _).2 ⟨up_filter _ this.1, fun x hx => this.2 x (List.mem_filter.1 hx).1⟩
theorem srt_mem (n : Nat) (D : List Nat) (x : Nat) : x ∈ srt n D ↔ x < n ∧ x ∈ D := by simp [srt]
theorem srt_len (n : Nat) (D : List Nat) : (srt n D).length ≤ D.length :=
  len_le _ _ (up_nodup ((mem_asc n 0 _).1 (srt_asc n D)).1) fun x hx => ((srt_mem n D x).1 hx).2
theorem dom_srt {par : Nat → Nat} {n : Nat} {D : List Nat} (h : dom par n D = true) (hD : ∀ x ∈ D, x < n) : dom par n (srt n D) = true := by
  rw [dom_iff] at h ⊢
  intro v hv
  obtain ⟨u, hu, e⟩ := h v hv
  exact ⟨u, (srt_mem n D u).2 ⟨hD u hu, hu⟩, e⟩
/-- THE DUAL: lists of posts that guard, and of places that are apart, of one length. -/
theorem dual (par : Nat → Nat) (hp : ∀ v, v ≠ 0 → par v < v) (n : Nat) : ∃ S P : List Nat, S ∈ asc 0 n ∧ dom par n S = true ∧ P ∈ asc 0 n ∧ P.Pairwise (far par) ∧ S.length ≤ P.length := by
  obtain ⟨D, P, h1, h2, h3, h4, h5, h6⟩ := greedy par hp n n 0 (by omega)
  have hd : dom par n D = true := (dom_iff par n D).2 fun v hv => h3 v (by omega) hv
  exact ⟨srt n D, P, srt_asc n D, dom_srt hd h2, (mem_asc n 0 _).2 ⟨h5, fun x hx => by rw [Nat.zero_add]; exact (h4 x hx).1⟩, h6, Nat.le_trans (srt_len n D) h1⟩

end Go.Am.Post


