import Derived.Test.YthnaeifkngeenaaPostC9
import Derived.Test.YthnaeifkngeenaaPostC6
import Derived.Test.YthnaeifkngeenaaLm14
/-
  Plain: what is found place by place is the first of the cheapest posts. No statement of the seat is proved here.
-/
set_option linter.unusedVariables false
set_option linter.unusedSimpArgs false
namespace Go.Am.Post
open SR Go.Am.G

theorem wh_congr (par : Nat → Nat) (n : Nat) (price : Nat → Nat) {a a' c c' : Nat → Bool} (ha : ∀ v, v < n → a v = a' v) (hc : ∀ v, v < n → c v = c' v) : wh par n price a c = wh par n price a' c' := by
  unfold wh
  refine sumL_congr _ _ _ fun S _ => ?_
  have : allN (okS par a c S) n = allN (okS par a' c' S) n := by
    rw [Bool.eq_iff_iff, okS_iff, okS_iff]
    constructor
    · rintro ⟨h1, h2, h3⟩
      exact ⟨h1, fun v hv h => h2 v hv (by rw [ha v hv]; exact h), fun v hv h => by rw [← hc v hv]; exact h3 v hv h⟩
    · rintro ⟨h1, h2, h3⟩
      exact ⟨h1, fun v hv h => h2 v hv (by rw [← ha v hv]; exact h), fun v hv h => by rw [hc v hv]; exact h3 v hv h⟩
  rw [this]
/-- A cost that is at most a number is told by the program's rating. -/
theorem whole_iff {s : List Int} (K : OkS s) (g : Nat) (cap : List LV) (price : Nat → Nat) (hp : ∀ i, i < s.length → price i ≤ 20) (must mustNot b : Nat) (hb : b ≤ 1000) :
    wholeV (minR g cap price) must mustNot s = (b : Int) ↔ wh (par s) s.length price (fun v => must.testBit v) (fun v => mustNot.testBit v) = some b := by
  have h := wh_eq K g cap price hp must mustNot
  generalize wholeV (minR g cap price) must mustNot s = x at *
  generalize wh (par s) s.length price (fun v => must.testBit v) (fun v => mustNot.testBit v) = y at *
  cases y with
  | none => simp only [RMin] at h; simp; omega
  | some c => simp only [RMin] at h; rw [Option.some.injEq, h.1]; omega
theorem cost_le (price : Nat → Nat) (n : Nat) (hp : ∀ i, i < n → price i ≤ 20) : ∀ S : List Nat, (∀ x ∈ S, x < n) → cost price S ≤ 20 * S.length
  | [], _ => by simp [cost]
  | x :: r, h => by
    have := cost_le price n hp r fun y hy => h y (by simp [hy])
    have := hp x (h x (by simp))
    simp only [cost, List.map_cons, List.sum_cons, List.length_cons] at *
    omega
/-- The least cost, and the first posts that have it. -/
def bestC (s : List Int) (price : Nat → Nat) : Nat := (wh (par s) s.length price (fun _ => false) (fun _ => false)).getD 0
def firstS (s : List Int) (price : Nat → Nat) : List Nat := firstG (hereC (par s) s.length price (bestC s price)) (moreC (par s) s.length price (bestC s price)) s.length 0 []
theorem best_ok (s : List Int) (price : Nat → Nat) : wh (par s) s.length price (fun _ => false) (fun _ => false) = some (bestC s price) := by
  obtain ⟨b, hb, _⟩ := wh_best (par s) s.length price
  rw [bestC, hb]; rfl
theorem best_le {s : List Int} (K : OkS s) (price : Nat → Nat) (hp : ∀ i, i < s.length → price i ≤ 20) : bestC s price ≤ 200 := by
  obtain ⟨b, hb, h⟩ := wh_best (par s) s.length price
  have e := best_ok s price
  rw [hb] at e
  have e := Option.some.inj e
  have := cost_le price s.length hp (List.range s.length) fun x hx => by simpa using hx
  have := K.le
  simp only [List.length_range] at *
  omega
theorem firstS_find (s : List Int) (price : Nat → Nat) : (asc 0 s.length).find? (goodC (par s) s.length price (bestC s price)) = some (firstS s price) := firstC_ok (par s) s.length price _ (best_ok s price)
end Go.Am.Post

/-
  What functions of chapter 12 compute, 10: the reference's lists of places.
-/
set_option linter.unusedVariables false
set_option linter.unusedSimpArgs false
set_option maxRecDepth 10000
namespace Go.Am.Post
open Go.Am.G

abbrev RLn (l : List Nat) : LV := RL (ci l)
abbrev rowsL (L : List (List Nat)) : List LV := L.map RLn
theorem rowsL_pures : ∀ L : List (List Nat), LV.pures (rowsL L) = true
  | [] => rfl
  | a :: r => by
    have := rowsL_pures r
    simp only [rowsL, List.map_cons, LV.pures, LV.pure, Bool.true_and] at *
    exact this
theorem rowsL_scalar : ∀ L : List (List Nat), (rowsL L).all LV.scalar = true
  | [] => rfl
  | a :: r => by
    have := rowsL_scalar r
    simp only [rowsL, List.map_cons, List.all_cons, LV.scalar, Bool.true_and] at *
    exact this
theorem rowsL_at (L : List (List Nat)) (i : Nat) (h : i < L.length) : (rowsL L)[i]? = some (RLn L[i]) := by rw [List.getElem?_map, List.getElem?_eq_getElem h]; rfl
/-- The lists that go on with some number. -/
def goOn (N : Nat) (begun : List Nat) (i n : Nat) : List (List Nat) := (List.range' i n).flatMap fun j => (asc (j + 1) (N - (j + 1))).map fun l => begun ++ j :: l
theorem goOn_succ (N : Nat) (begun : List Nat) (i n : Nat) : goOn N begun i (n + 1) = ((asc (i + 1) (N - (i + 1))).map fun l => begun ++ i :: l) ++ goOn N begun (i + 1) n := by
  unfold goOn; rw [List.range'_succ, List.flatMap_cons]
theorem asc_tail (N : Nat) (begun : List Nat) (d : Nat) : ∀ i, i + d = N → (asc i d).tail.map (fun l => begun ++ l) = goOn N begun i d := by
  induction d with
  | zero => intro i _; rfl
  | succ d ih =>
    intro i hi
    rw [goOn_succ, ← ih (i + 1) (by omega), show N - (i + 1) = d by omega]
    show ((asc (i + 1) d).map (i :: ·) ++ (asc (i + 1) d).tail).map _ = _
    rw [List.map_append, List.map_map]
    rfl
theorem lists_loop (N : Nat) (hN : N ≤ 10) (begun : List Nat) (hb : begun.length ≤ 20) (n : Nat) : ∀ (i : Nat) (m : LMem) (v : LV) (k : Nat) (cs : List LV), i + n = N → Lst m v 1 k cs → k + 2 ^ n ≤ 5000 →
    (∀ j, i ≤ j → j < N → ∃ a b, ∀ m, clF LP n_ref12_lists [.int .i64 (N : Int), RLn (begun ++ [j])] m = some (.P, .lst a b 1 (asc (j + 1) (N - (j + 1))).length (rowsL ((asc (j + 1) (N - (j + 1))).map fun l => begun ++ j :: l)), m)) →
    ∃ v' m', exF LP ref12_lists.L0 [(0, .int .i64 (N : Int)), (1, RLn begun), (5, v), (7, .int .i64 (i : Int))] m = some (.exit 0, [(5, v')], m') ∧ Lst m' v' 1 (k + (goOn N begun i n).length) (cs ++ rowsL (goOn N begun i n)) := by
  induction n with
  | zero =>
    intro i m v k cs hi hL hk H
    refine ⟨v, m, ?_, by simpa [goOn] using hL⟩
    rw [ref12_lists.L0_eq]
    simp only [ref12_lists.B0, beqT, beqF, exF_seq, exF_region, exF_block, exF_cond, exF_ret, exF_exit, exF_skip, runL, wantL, stepL, evL, LEnv.at, putL, loadFine, loadL, cellsAt, Trk.putNew, Trk.up, Trk.touch, Trk.gives, Trk.calm, Trk.hit, opdsOf, Trk.fresh, LEnv.keep, LEnv.ofFrom, List.map_cons, List.map_nil, nbeq, nble, nblt, ofAV, ofAVs, lenL, bin_add, bin_sub, bin_mul, bin_eql, bin_neq, bin_lss, bin_leq, bin_gtr, bin_geq, natL_nat, natL_zero, natL_one, natL_two, Nat.zero_mul, List.any_cons, List.any_nil, Bool.or_false, Bool.false_or, Bool.true_or, Bool.or_true, Bool.and_true, Bool.true_and, Bool.and_false, Bool.false_and, Bool.not_true, Bool.not_false, Nat.reduceBEq, Nat.reduceEqDiff, decide_true, decide_false, cond_true, cond_false, List.filter_nil, List.filter_cons, Nat.reduceAdd, Nat.reduceLeDiff, reduceCtorEq, List.length_nil, List.length_cons, Nat.mul_one, if_true, if_false, Bool.false_eq_true, eq_self, and_true, true_and, retL, resultsL, resAllL, resOfL, List.append_nil, List.nil_append, List.cons_append, true_or, or_true, false_or, or_false, false_and, and_false, not_true_eq_false, not_false_eq_true, ne_eq, unL, trim_nil, views_pures, LV.pures, LV.pure, freeze, Nat.reduceDiv, Int.reduceEq, Int.reduceLT, Int.reduceLE, Int.natCast_zero, LV.cells, allocL, List.getElem?_cons_zero, List.getElem?_cons_succ, storeL, spliceL, List.take_zero, List.take_succ_cons, List.drop_zero, List.drop_succ_cons, List.drop_nil, List.take_nil, Nat.le_refl, Nat.reduceMul, List.set_cons_zero, List.set_cons_succ, LV.scalar, List.all_cons, List.all_nil, Nat.lt_add_one, Nat.zero_lt_one, Nat.reduceLT, Nat.lt_irrefl, fillL, List.length_append, foldIntL, kind_beq, pures_int, solids_int, plains_int, unders_int, scalars_int, show ¬ ((i : Int) < (N : Int)) by omega]
  | succ n ih =>
    intro i m v k cs hi hL hk H
    have hp2 : 2 ^ (n + 1) = 2 * 2 ^ n := by rw [Nat.pow_succ, Nat.mul_comm]
    obtain ⟨a, b, hc⟩ := H i (Nat.le_refl _) (by omega)
    have hgl : ((asc (i + 1) (N - (i + 1))).map fun l => begun ++ i :: l).length = 2 ^ n := by rw [List.length_map, asc_length, show N - (i + 1) = n by omega]
    have hal : (asc (i + 1) (N - (i + 1))).length = 2 ^ n := by rw [asc_length, show N - (i + 1) = n by omega]
    have c1 := app_clone m (decide (ci begun = [])) (decide (ci begun = [])) (cond (decide (ci begun = [])) 0 1) (ci begun) (by simp; omega) (by
      by_cases c : ci begun = []
      · exact .inl c
      · exact .inr (by simp only [c, decide_false, cond_false]))
    have c2 := app_two m (ci begun) (i : Int) (by simp; omega)
    have e : ci begun ++ [(i : Int)] = ci (begun ++ [i]) := by simp
    rw [e] at c2
    have hne : ci (begun ++ [i]) ≠ [] := by simp
    have hv : views (m ++ GM (ci (begun ++ [i]))) [.int .i64 (N : Int), GV m.length (ci (begun ++ [i]))] = some ([.int .i64 (N : Int), RLn (begun ++ [i])], [m.length]) := by
      have h1 := fun k => view_gv k (m ++ GM (ci (begun ++ [i]))) m.length (ci (begun ++ [i])) true (fun _ => by simp [GM])
      simp only [if_neg hne] at h1
      exact views_snd 32 _ _ _ _ _ h1 rfl (by simp [LV.pures, LV.pure, GV])
    obtain ⟨m3, h3, h4, h5⟩ := call_shown lp_ref12_lists rfl hv (by simp [LV.pures, LV.pure]) (hc [])
    have hL3 : Lst m3 v 1 k cs := hL.mono fun j hj => by
      have := hL.lt j hj
      rw [h4 j (by simp; omega), List.getElem?_append_left this]
    obtain ⟨v', m4, h6, h7, _⟩ := hL3.append (x := .lst a b 1 (asc (i + 1) (N - (i + 1))).length (rowsL ((asc (i + 1) (N - (i + 1))).map fun l => begun ++ i :: l))) (k := 2 ^ n) (bytes := 24) (news := rowsL ((asc (i + 1) (N - (i + 1))).map fun l => begun ++ i :: l)) (by simp [contents, nbeq, hal]) (by simp [hal]) (by omega) (by omega) (rowsL_scalar _)
    obtain ⟨v5, m5, h8, h9⟩ := ih (i + 1) m4 v' (k + 2 ^ n) _ (by omega) h7 (by omega) (fun j hj hj2 => H j (by omega) hj2)
    refine ⟨v5, m5, ?_, ?_⟩
    · have hvn : ∀ m, views m [] = some ([], []) := fun _ => rfl
      have hfn : ∀ m, freeze [] m = m := freeze_nil
      have hvi : ∀ m (x : Int), views m [.int .i64 x] = some ([.int .i64 x], []) := fun m x => rfl
      have hci : ∀ (x : Int), (LV.int .i64 x).cells = some [.int .i64 x] := fun x => rfl
      rw [ref12_lists.L0_eq]
      simp only [ref12_lists.B0, beqT, beqF, exF_seq, exF_region, exF_block, exF_cond, exF_ret, exF_exit, exF_skip, runL, wantL, stepL, evL, LEnv.at, putL, loadFine, loadL, cellsAt, Trk.putNew, Trk.up, Trk.touch, Trk.gives, Trk.calm, Trk.hit, opdsOf, Trk.fresh, LEnv.keep, LEnv.ofFrom, List.map_cons, List.map_nil, nbeq, nble, nblt, ofAV, ofAVs, lenL, bin_add, bin_sub, bin_mul, bin_eql, bin_neq, bin_lss, bin_leq, bin_gtr, bin_geq, natL_nat, natL_zero, natL_one, natL_two, Nat.zero_mul, List.any_cons, List.any_nil, Bool.or_false, Bool.false_or, Bool.true_or, Bool.or_true, Bool.and_true, Bool.true_and, Bool.and_false, Bool.false_and, Bool.not_true, Bool.not_false, Nat.reduceBEq, Nat.reduceEqDiff, decide_true, decide_false, cond_true, cond_false, List.filter_nil, List.filter_cons, Nat.reduceAdd, Nat.reduceLeDiff, reduceCtorEq, List.length_nil, List.length_cons, Nat.mul_one, if_true, if_false, Bool.false_eq_true, eq_self, and_true, true_and, retL, resultsL, resAllL, resOfL, List.append_nil, List.nil_append, true_or, or_true, false_or, or_false, false_and, and_false, not_true_eq_false, not_false_eq_true, ne_eq, unL, trim_nil, LV.pures, LV.pure, Nat.reduceDiv, Int.reduceEq, Int.reduceLT, Int.reduceLE, Int.natCast_zero, allocL, List.getElem?_cons_zero, List.getElem?_cons_succ, storeL, spliceL, List.take_zero, List.take_succ_cons, List.drop_zero, List.drop_succ_cons, List.drop_nil, List.take_nil, Nat.le_refl, Nat.reduceMul, List.set_cons_zero, List.set_cons_succ, LV.scalar, List.all_cons, List.all_nil, Nat.lt_add_one, Nat.zero_lt_one, Nat.reduceLT, Nat.lt_irrefl, fillL, foldIntL, kind_beq, pures_int, solids_int, plains_int, unders_int, scalars_int, show ((i : Int) < (N : Int)) by omega, hvn, hfn, c1, hci, hvi, c2, h3, h6, wrap_succ (show i + 1 < 9223372036854775808 by omega), h8]
    · rw [goOn_succ, List.length_append, hgl]
      have : cs ++ rowsL (((asc (i + 1) (N - (i + 1))).map fun l => begun ++ i :: l) ++ goOn N begun (i + 1) n) = cs ++ rowsL ((asc (i + 1) (N - (i + 1))).map fun l => begun ++ i :: l) ++ rowsL (goOn N begun (i + 1) n) := by
        rw [rowsL, List.map_append, ← List.append_assoc]
      rw [this, ← Nat.add_assoc]
      exact h9
/-- What comes next. -/
def nextOf (begun : List Nat) : Nat := match begun.getLast? with
  | none => 0
  | some x => x + 1
theorem lists_c (N : Nat) (hN : N ≤ 10) (d : Nat) : ∀ (begun : List Nat), nextOf begun + d = N → begun.length ≤ nextOf begun →
    ∃ a b, ∀ m, clF LP n_ref12_lists [.int .i64 (N : Int), RLn begun] m = some (.P, .lst a b 1 (asc (nextOf begun) d).length (rowsL ((asc (nextOf begun) d).map fun l => begun ++ l)), m) := by
  induction d using Nat.strongRecOn with
  | ind d ih =>
    intro begun hd hb
    have h2d : 2 ^ d ≤ 2 ^ 10 := Nat.pow_le_pow_right (by omega) (by omega)
    obtain ⟨v, m', h1, h2⟩ := lists_loop N hN begun (by omega) d (nextOf begun) [] (.lst false true 1 1 [RLn begun]) 1 [RLn begun] hd (.inl ⟨false, true, 1, rfl, .inr rfl, .inr rfl, by simp, rfl⟩) (by omega) (fun j hj hjN => by
      have hn : nextOf (begun ++ [j]) = j + 1 := by simp [nextOf]
      have := ih (N - (j + 1)) (by omega) (begun ++ [j]) (by rw [hn]; omega) (by rw [hn]; simp; omega)
      rw [hn] at this
      obtain ⟨a, b, h⟩ := this
      refine ⟨a, b, fun m => ?_⟩
      rw [h m]
      simp)
    have he : (asc (nextOf begun) d).map (fun l => begun ++ l) = begun :: goOn N begun (nextOf begun) d := by
      rw [asc_head, List.map_cons, asc_tail N begun d _ hd, List.append_nil]
    have hlen : (asc (nextOf begun) d).length = 1 + (goOn N begun (nextOf begun) d).length := by
      have := congrArg List.length he
      simp only [List.length_map, List.length_cons] at this
      omega
    have h3 : [RLn begun] ++ rowsL (goOn N begun (nextOf begun) d) = rowsL ((asc (nextOf begun) d).map fun l => begun ++ l) := by rw [he]; rfl
    rw [← hlen, h3] at h2
    obtain ⟨a, b, c, ids, hc, ha, _, hv⟩ := h2.view (rowsL_pures _) (by omega)
    have hc1 : c = 1 := by
      rcases hc with c | c
      · omega
      · exact c
    subst hc1
    refine ⟨a, b, fun m => call_Pv lp_ref12_lists rfl (by simp [LV.pures, LV.pure]) ?_ (hv 37) m⟩
    have hci : (RLn begun).cells = some [RLn begun] := rfl
    cases hg : begun.getLast? with
    | none =>
      have hnil : begun = [] := by simpa using hg
      subst hnil
      have h1 : exF LP ref12_lists.L0 [(0, .int .i64 (N : Int)), (1, .lst true true 0 0 []), (5, .lst false true 1 1 [.lst true true 0 0 []]), (7, .int .i64 0)] [] = some (.exit 0, [(5, v)], m') := h1
      have e : RLn [] = .lst true true 0 0 [] := rfl
      rw [e]
      simp only [ref12_lists, ref12_lists.B, beqT, beqF, exF_seq, exF_region, exF_block, exF_cond, exF_ret, exF_exit, exF_skip, runL, wantL, stepL, evL, LEnv.at, putL, loadFine, loadL, cellsAt, Trk.putNew, Trk.up, Trk.touch, Trk.gives, Trk.calm, Trk.hit, opdsOf, Trk.fresh, LEnv.keep, LEnv.ofFrom, List.map_cons, List.map_nil, nbeq, nble, nblt, ofAV, ofAVs, lenL, bin_add, bin_sub, bin_mul, bin_eql, bin_neq, bin_lss, bin_leq, bin_gtr, bin_geq, natL_nat, natL_zero, natL_one, natL_two, Nat.zero_mul, List.any_cons, List.any_nil, Bool.or_false, Bool.false_or, Bool.true_or, Bool.or_true, Bool.and_true, Bool.true_and, Bool.and_false, Bool.false_and, Bool.not_true, Bool.not_false, Nat.reduceBEq, Nat.reduceEqDiff, decide_true, decide_false, cond_true, cond_false, List.filter_nil, List.filter_cons, Nat.reduceAdd, Nat.reduceLeDiff, reduceCtorEq, List.length_nil, List.length_cons, Nat.mul_one, if_true, if_false, Bool.false_eq_true, eq_self, and_true, true_and, retL, resultsL, resAllL, resOfL, List.append_nil, List.nil_append, List.cons_append, true_or, or_true, false_or, or_false, false_and, and_false, not_true_eq_false, not_false_eq_true, ne_eq, unL, trim_nil, views_pures, LV.pures, LV.pure, freeze, Nat.reduceDiv, Int.reduceEq, Int.reduceLT, Int.reduceLE, Int.natCast_zero, LV.cells, allocL, List.getElem?_cons_zero, List.getElem?_cons_succ, storeL, spliceL, List.take_zero, List.take_succ_cons, List.drop_zero, List.drop_succ_cons, List.drop_nil, List.take_nil, Nat.le_refl, Nat.reduceMul, List.set_cons_zero, List.set_cons_succ, LV.scalar, List.all_cons, List.all_nil, Nat.lt_add_one, Nat.zero_lt_one, Nat.reduceLT, Nat.lt_irrefl, fillL, List.length_append, foldIntL, kind_beq, pures_int, solids_int, plains_int, unders_int, scalars_int, h1]
    | some x =>
      have hne : begun ≠ [] := by intro c; subst c; cases hg
      have hpos : 0 < begun.length := List.length_pos_iff.2 hne
      have hx : begun[begun.length - 1] = x := by
        rw [List.getLast?_eq_getElem?, List.getElem?_eq_getElem (by omega)] at hg
        exact Option.some.inj hg
      have hn : nextOf begun = x + 1 := by simp [nextOf, hg]
      rw [hn] at h1
      have hcl : (ci begun).length = begun.length := by simp
      have hcm : (ci begun).map (LV.int .i64) = begun.map fun y : Nat => LV.int .i64 (y : Int) := by simp
      have hw : IntKind.i64.wrap ((begun.length : Int) - 1) = ((begun.length - 1 : Nat) : Int) := by rw [wrap_in (by omega)]; omega
      have hat := nat_at .i64 begun (begun.length - 1) (by omega)
      rw [hx] at hat
      simp only [RLn, RL, IL, hcl, hcm] at h1 ⊢
      simp only [ref12_lists, ref12_lists.B, beqT, beqF, exF_seq, exF_region, exF_block, exF_cond, exF_ret, exF_exit, exF_skip, runL, wantL, stepL, evL, LEnv.at, putL, loadFine, loadL, cellsAt, Trk.putNew, Trk.up, Trk.touch, Trk.gives, Trk.calm, Trk.hit, opdsOf, Trk.fresh, LEnv.keep, LEnv.ofFrom, List.map_cons, List.map_nil, nbeq, nble, nblt, ofAV, ofAVs, lenL, bin_add, bin_sub, bin_mul, bin_eql, bin_neq, bin_lss, bin_leq, bin_gtr, bin_geq, natL_nat, natL_zero, natL_one, natL_two, Nat.zero_mul, List.any_cons, List.any_nil, Bool.or_false, Bool.false_or, Bool.true_or, Bool.or_true, Bool.and_true, Bool.true_and, Bool.and_false, Bool.false_and, Bool.not_true, Bool.not_false, Nat.reduceBEq, Nat.reduceEqDiff, decide_true, decide_false, cond_true, cond_false, List.filter_nil, List.filter_cons, Nat.reduceAdd, Nat.reduceLeDiff, reduceCtorEq, List.length_nil, List.length_cons, Nat.mul_one, if_true, if_false, Bool.false_eq_true, eq_self, and_true, true_and, retL, resultsL, resAllL, resOfL, List.append_nil, List.nil_append, List.cons_append, true_or, or_true, false_or, or_false, false_and, and_false, not_true_eq_false, not_false_eq_true, ne_eq, unL, trim_nil, views_pures, LV.pures, LV.pure, freeze, Nat.reduceDiv, Int.reduceEq, Int.reduceLT, Int.reduceLE, Int.natCast_zero, LV.cells, allocL, List.getElem?_cons_zero, List.getElem?_cons_succ, storeL, spliceL, List.take_zero, List.take_succ_cons, List.drop_zero, List.drop_succ_cons, List.drop_nil, List.take_nil, Nat.le_refl, Nat.reduceMul, List.set_cons_zero, List.set_cons_succ, LV.scalar, List.all_cons, List.all_nil, Nat.lt_add_one, Nat.zero_lt_one, Nat.reduceLT, Nat.lt_irrefl, fillL, List.length_append, foldIntL, kind_beq, pures_int, solids_int, plains_int, unders_int, scalars_int, hw, show (0 : Int) < (begun.length : Int) by omega, show begun.length - 1 < begun.length by omega, hat, wrap_succ (show x + 1 < 9223372036854775808 by omega), h1]
end Go.Am.Post


