/-
  What functions of chapter 13 compute, outright 3: all tides are gone through.
-/
import Derived.Test.YtgogknjedpmcgaaWashD1
import Derived.Test.YtgogknjedpmcgaaWashC15
set_option linter.unusedVariables false
set_option linter.unusedSimpArgs false
set_option maxRecDepth 10000
namespace Go.Am.Wash
open Go.Am.G

theorem trim_keep (k : Nat) (vs : List LV) (m : LMem) (h : k ≤ m.length) : k ≤ (trim k vs m).length ∧ ∀ i, i < k → (trim k vs m)[i]? = m[i]? := by
  unfold trim
  cases (LV.unders k vs && belowM k (m.take k))
  · exact ⟨h, fun _ _ => rfl⟩
  · simp only [cond_true, List.length_take]
    exact ⟨by omega, fun i hi => by rw [List.getElem?_take, if_pos hi]⟩
/-- What goes through all tides of n places: what it keeps in memory, by a state. -/
structure TVis (σ : Type) (n : Nat) where
  I : σ → LMem → Prop
  vis : σ → List Nat → σ
  f : Nat
  first : List LV
  cap : List LV
  a : Nat
  hI : ∀ s m Y, I s m → I s (m ++ Y)
  hT : ∀ s m k vs, I s m → a + 3 ≤ k → I s (trim k vs m)
  hn : ∀ s m, I s m → m[a]? = some ⟨[.int .i64 (n : Int)], true⟩
  hv : ∀ s m, I s m → m[a + 1]? = some ⟨[.func f first cap], true⟩
  hp : ∀ s m, I s m → m[a + 2]? = some ⟨[.func n_law13_tides_1 [] [.ptr a 0 1, .ptr (a + 1) 0 1, .ptr (a + 2) 0 1]], true⟩
  size : σ → Nat
  hsz : ∀ s l, size (vis s l) ≤ size s + 1
  hvis : ∀ s m l b, I s m → size s < 1000000 → Tide n l → a + 3 ≤ b → m[b]? = some ⟨ints (ci l), true⟩ → ∃ m', clF LP f (first ++ ([.sl b 0 n n 1 1 n] ++ cap)) m = some (.W, .tup [], m') ∧ I (vis s l) m' ∧ m.length ≤ m'.length ∧ ∀ i, a + 3 ≤ i → i < m.length → m'[i]? = m[i]?
/-- The places so far lie where they were put. -/
def LB (a : Nat) (m : LMem) (l : List Nat) (lv : LV) : Prop := ∃ b, lv = GV b (ci l) ∧ (l ≠ [] → a + 3 ≤ b ∧ m[b]? = some ⟨ints (ci l), true⟩)
theorem LB.mono {a : Nat} {m m' : LMem} {l : List Nat} {lv : LV} (h : LB a m l lv) (hm : ∀ i, a + 3 ≤ i → i < m.length → m'[i]? = m[i]?) : LB a m' l lv := by
  obtain ⟨b, h1, h2⟩ := h
  refine ⟨b, h1, fun hl => ?_⟩
  obtain ⟨h3, h4⟩ := h2 hl
  exact ⟨h3, by rw [hm b h3 (List.getElem?_eq_some_iff.1 h4).1]; exact h4⟩
theorem LB.contains {a : Nat} {m : LMem} {l : List Nat} {lv : LV} (h : LB a m l lv) (hl : l.length ≤ 7) (x : Nat) : clF LP n_slices_Contains_int_int [lv, .int .i64 (x : Int)] m = some (.P, .bool (hasN l x), m) := by
  obtain ⟨b, rfl, h2⟩ := h
  have hd : decide ((x : Int) ∈ ci l) = hasN l x := by
    rw [Bool.eq_iff_iff, decide_eq_true_eq, ci_mem, hasN_iff]
  rw [← hd]
  by_cases hn : l = []
  · subst hn
    exact contains_c true true 0 [] (x : Int) (by simp) m
  · obtain ⟨h3, h4⟩ := h2 hn
    have hv := fun k => view_gv k m b (ci l) true (fun _ => h4)
    have hne := ci_ne hn
    simp only [hne, if_false] at hv
    refine call_view lp_slices_Contains_int_int rfl (vs := [RL (ci l), .int .i64 (x : Int)]) (ids := [b]) ?_ (by simp [LV.pures, LV.pure]) (contains_c _ _ _ (ci l) (x : Int) (by rw [ci_len]; omega) []) rfl
    exact views_two 32 _ _ _ _ _ hv rfl (by simp [LV.pures, LV.pure, GV, hn])
theorem LB.cases {a : Nat} {m : LMem} {l : List Nat} {lv : LV} (h : LB a m l lv) : (l = [] ∧ lv = .lst true true 0 0 []) ∨ ∃ b, l ≠ [] ∧ lv = .sl b 0 l.length l.length 1 1 l.length ∧ a + 3 ≤ b ∧ m[b]? = some ⟨ints (ci l), true⟩ := by
  obtain ⟨b, rfl, h2⟩ := h
  by_cases hn : l = []
  · subst hn; exact .inl ⟨rfl, rfl⟩
  · obtain ⟨h3, h4⟩ := h2 hn
    exact .inr ⟨b, hn, by simp only [GV, if_neg (ci_ne hn), ci_len], h3, h4⟩
theorem LB.new {a : Nat} {m : LMem} {l : List Nat} (x : Nat) (ha : a + 3 ≤ m.length) : LB a (m ++ [⟨ints (ci (l ++ [x])), true⟩]) (l ++ [x]) (.sl m.length 0 (l.length + 1) (l.length + 1) 1 1 (l.length + 1)) := by
  refine ⟨m.length, ?_, fun _ => ⟨ha, by simp⟩⟩
  have hne : ci (l ++ [x]) ≠ [] := ci_ne (by simp)
  simp only [GV, if_neg hne, ci_len, List.length_append, List.length_singleton]
theorem app_sl (m : LMem) (l : List Nat) (hl : l.length ≤ 7) (b : Nat) (h4 : m[b]? = some ⟨ints (ci l), true⟩) (x : Nat) : appendL m 1 8 (.sl b 0 l.length l.length 0 1 l.length) (.lst false true 1 1 [.int .i64 (x : Int)]) = some (.sl m.length 0 (l.length + 1) (l.length + 1) 1 1 (l.length + 1), m ++ [⟨ints (ci (l ++ [x])), true⟩]) := by
  have hc : contents m 1 (.sl b 0 l.length l.length 0 1 l.length) = some (ints (ci l), l.length) := by
    simp only [contents, h4]
    simp [nbeq, nble]
    rw [List.take_of_length_le (by simp)]
  have hc2 : contents m 1 (.lst false true 1 1 [.int .i64 (x : Int)]) = some ([.int .i64 (x : Int)], 1) := rfl
  have hr : (Nat.ble ((l.length + 1) * 8) roomMost && Nat.ble (l.length + 1) roomMost && [LV.int .i64 (x : Int)].all LV.scalar) = true := by
    simp [nble, roomMost, LV.scalar]; omega
  have e1 : ci (l ++ [x]) = ci l ++ [(x : Int)] := by simp
  unfold appendL
  simp only [hc, hc2, hr, h4]
  rw [e1]
  have hle : decide (l.length + 1 ≤ l.length) = false := by simp
  simp only [newSl, nbeq, nble, hle]
  simp [ints]
theorem app_nl (m : LMem) (x : Nat) : appendL m 1 8 (.lst true true 0 0 []) (.lst false true 1 1 [.int .i64 (x : Int)]) = some (.sl m.length 0 1 1 1 1 1, m ++ [⟨ints (ci [x]), true⟩]) := by
  simp [appendL, contents, newSl, roomMost, nbeq, nble, LV.scalar, ints]
theorem TVis.fold {σ : Type} {n : Nat} (X : TVis σ n) : ∀ (L : List (List Nat)) (s : σ), X.size (L.foldl X.vis s) ≤ X.size s + L.length
  | [], s => by simp
  | x :: r, s => by
    have h1 := X.fold r (X.vis s x)
    have h2 := X.hsz s x
    simp only [List.foldl_cons, List.length_cons]
    omega
def PutT {σ : Type} {n : Nat} (X : TVis σ n) (d : Nat) : Prop := ∀ (s : σ) (m : LMem) (l : List Nat) (lv : LV), X.size s + (perms n d l).length ≤ 1000000 → X.I s m → l.length + d = n → l.Nodup → (∀ x ∈ l, x < n) → LB X.a m l lv →
  ∃ m', clF LP n_law13_tides_1 [lv, .ptr X.a 0 1, .ptr (X.a + 1) 0 1, .ptr (X.a + 2) 0 1] m = some (.W, .tup [], m') ∧ X.I ((perms n d l).foldl X.vis s) m' ∧ m.length ≤ m'.length ∧ ∀ i, X.a + 3 ≤ i → i < m.length → m'[i]? = m[i]?
theorem TVis.lt {σ : Type} {n : Nat} (X : TVis σ n) {s : σ} {m : LMem} (h : X.I s m) : X.a + 3 ≤ m.length := by
  have := (List.getElem?_eq_some_iff.1 (X.hp s m h)).1
  omega
theorem tides_loop {σ : Type} {n : Nat} (h7 : n ≤ 7) (X : TVis σ n) (d : Nat) (G : PutT X d) (l : List Nat) (lv : LV) (hl : l.length + (d + 1) = n) (hnd : l.Nodup) (hlt : ∀ x ∈ l, x < n) (k : Nat) : ∀ (x : Nat) (s : σ) (m : LMem), X.size s + (permsC n (perms n d) l k x).length ≤ 1000000 → x + k = n → X.I s m → LB X.a m l lv →
    ∃ m', exF LP law13_tides_1.L0 [(0, lv), (3, .ptr (X.a + 2) 0 1), (13, .int .i64 (n : Int)), (14, .int .i64 (x : Int))] m = some (.exit 0, [], m') ∧ X.I ((permsC n (perms n d) l k x).foldl X.vis s) m' ∧ m.length ≤ m'.length ∧ ∀ i, X.a + 3 ≤ i → i < m.length → m'[i]? = m[i]? := by
  induction k with
  | zero =>
    intro x s m hz hx hI hB
    refine ⟨m, ?_, hI, Nat.le_refl _, fun _ _ _ => rfl⟩
    rw [law13_tides_1.L0_eq]
    simp only [law13_tides_1.B0, beqT, beqF, exF_seq, exF_region, exF_block, exF_cond, exF_ret, exF_exit, exF_skip, runL, wantL, stepL, evL, LEnv.at, putL, loadFine, loadL, cellsAt, Trk.putNew, Trk.up, Trk.touch, Trk.gives, Trk.calm, Trk.hit, opdsOf, Trk.fresh, LEnv.keep, LEnv.ofFrom, List.map_cons, List.map_nil, nbeq, nble, nblt, ofAV, ofAVs, lenL, bin_add, bin_sub, bin_mul, bin_eql, bin_neq, bin_lss, bin_leq, bin_gtr, bin_geq, natL_nat, natL_zero, natL_one, natL_two, Nat.zero_mul, List.any_cons, List.any_nil, Bool.or_false, Bool.false_or, Bool.true_or, Bool.or_true, Bool.and_true, Bool.true_and, Bool.and_false, Bool.false_and, Bool.not_true, Bool.not_false, Nat.reduceBEq, Nat.reduceEqDiff, decide_true, decide_false, cond_true, cond_false, List.filter_nil, List.filter_cons, Nat.reduceAdd, Nat.reduceLeDiff, reduceCtorEq, List.length_nil, List.length_cons, Nat.mul_one, if_true, if_false, Bool.false_eq_true, eq_self, and_true, true_and, retL, resultsL, resAllL, resOfL, List.append_nil, List.nil_append, List.cons_append, true_or, or_true, false_or, or_false, false_and, and_false, not_true_eq_false, not_false_eq_true, ne_eq, unL, trim_nil, views_pures, LV.pures, LV.pure, freeze, Nat.reduceDiv, Int.reduceEq, Int.reduceLT, Int.reduceLE, Int.natCast_zero, LV.cells, allocL, List.getElem?_cons_zero, List.getElem?_cons_succ, storeL, spliceL, List.take_zero, List.take_succ_cons, List.drop_zero, List.drop_succ_cons, List.drop_nil, List.take_nil, Nat.le_refl, Nat.reduceMul, List.set_cons_zero, List.set_cons_succ, LV.scalar, List.all_cons, List.all_nil, Nat.lt_add_one, Nat.zero_lt_one, Nat.reduceLT, Nat.lt_irrefl, fillL, List.length_append, foldIntL, kind_beq, pures_int, solids_int, plains_int, unders_int, scalars_int, show ¬ ((x : Int) < (n : Int)) by omega]
  | succ k ih =>
    intro x s m hz hx hI hB
    have hc := hB.contains (by omega) x
    rw [permsC, List.length_append] at hz
    rw [permsC, List.foldl_append]
    cases hh : hasN l x
    · rw [hh, cond_false] at hz
      rw [cond_false]
      have hfs := X.fold (perms n d (l ++ [x])) s
      have hxl : x ∉ l := fun c => by rw [(hasN_iff l x).2 c] at hh; cases hh
      have ha := X.lt hI
      obtain ⟨m2, p1, p2, p3, p4⟩ := G s (m ++ [⟨ints (ci (l ++ [x])), true⟩]) (l ++ [x]) _ (by omega) (X.hI s m _ hI) (by simp; omega) (by
        rw [List.nodup_append]; refine ⟨hnd, by simp, ?_⟩
        intro u hu v hv; simp at hv; subst hv; intro e; subst e; exact hxl hu) (by
        intro u hu
        rcases List.mem_append.1 hu with hu | hu
        · exact hlt u hu
        · simp at hu; omega) (LB.new x ha)
      have p5 : ∀ i, X.a + 3 ≤ i → i < m.length → m2[i]? = m[i]? := fun i h1 h2 => by
        rw [p4 i h1 (by simp; omega), List.getElem?_append_left h2]
      obtain ⟨m3, q1, q2, q3, q4⟩ := ih (x + 1) _ m2 (by omega) (by omega) p2 (hB.mono p5)
      simp only [List.length_append, List.length_singleton] at p3
      refine ⟨m3, ?_, q2, by omega, fun i h1 h2 => by rw [q4 i h1 (by omega), p5 i h1 h2]⟩
      have hp := X.hp _ _ (X.hI s m [⟨ints (ci (l ++ [x])), true⟩] hI)
      have hge : ¬ (m.length ≤ X.a + 2) := by omega
      have hvx : ∀ m, views m [.int .i64 (x : Int)] = some ([.int .i64 (x : Int)], []) := fun m => views_pures m _ (by simp [LV.pures, LV.pure])
      rw [hh] at hc
      have hws := wrap_succ (show x + 1 < 9223372036854775808 by omega)
      rcases hB.cases with ⟨rfl, rfl⟩ | ⟨b, hn, rfl, h3, h4⟩
      · have happ := app_nl m x
        have hsl : sliceL 1 (.lst true true 0 0 []) none (some (.int .i64 0)) (some (.int .i64 0)) = some (.lst true true 0 0 []) := rfl
        simp only [List.nil_append, List.length_nil, Nat.zero_add] at *
        generalize (m ++ [⟨ints (ci [x]), true⟩]) = m1 at *
        rw [law13_tides_1.L0_eq]
        simp only [law13_tides_1.B0, beqT, beqF, exF_seq, exF_region, exF_block, exF_cond, exF_ret, exF_exit, exF_skip, runL, wantL, stepL, evL, LEnv.at, putL, loadFine, loadL, cellsAt, Trk.putNew, Trk.up, Trk.touch, Trk.gives, Trk.calm, Trk.hit, opdsOf, Trk.fresh, LEnv.keep, LEnv.ofFrom, List.map_cons, List.map_nil, nbeq, nble, nblt, ofAV, ofAVs, lenL, bin_add, bin_sub, bin_mul, bin_eql, bin_neq, bin_lss, bin_leq, bin_gtr, bin_geq, natL_nat, natL_zero, natL_one, natL_two, Nat.zero_mul, List.any_cons, List.any_nil, Bool.or_false, Bool.false_or, Bool.true_or, Bool.or_true, Bool.and_true, Bool.true_and, Bool.and_false, Bool.false_and, Bool.not_true, Bool.not_false, Nat.reduceBEq, Nat.reduceEqDiff, decide_true, decide_false, cond_true, cond_false, List.filter_nil, List.filter_cons, Nat.reduceAdd, Nat.reduceLeDiff, reduceCtorEq, List.length_nil, List.length_cons, Nat.mul_one, if_true, if_false, Bool.false_eq_true, eq_self, and_true, true_and, retL, resultsL, resAllL, resOfL, List.append_nil, List.nil_append, true_or, or_true, false_or, or_false, false_and, and_false, not_true_eq_false, not_false_eq_true, ne_eq, unL, trim_nil, LV.pures, LV.pure, Nat.reduceDiv, Int.reduceEq, Int.reduceLT, Int.reduceLE, Int.natCast_zero, allocL, List.getElem?_cons_zero, List.getElem?_cons_succ, storeL, spliceL, List.take_zero, List.take_succ_cons, List.drop_zero, List.drop_succ_cons, List.drop_nil, List.take_nil, Nat.le_refl, Nat.reduceMul, List.set_cons_zero, List.set_cons_succ, LV.scalar, List.all_cons, List.all_nil, Nat.lt_add_one, Nat.zero_lt_one, Nat.reduceLT, Nat.lt_irrefl, fillL, foldIntL, kind_beq, pures_int, solids_int, plains_int, unders_int, scalars_int, show ((x : Int) < (n : Int)) by omega, hc, Option.map_some, Option.map_none, hsl, LV.cells, hvx, freeze_nil, List.cons_append, happ, hge, hp, p1, hws, q1]
      · have happ := app_sl m l (by omega) b h4 x
        have hsl : sliceL 1 (.sl b 0 l.length l.length 1 1 l.length) none (some (.int .i64 (l.length : Int))) (some (.int .i64 (l.length : Int))) = some (.sl b 0 l.length l.length 0 1 l.length) := by
          simp only [sliceL, optNatL, natL_nat]
          simp [nble]
        have hab : ¬ (X.a + 2 = b) := by omega
        generalize (m ++ [⟨ints (ci (l ++ [x])), true⟩]) = m1 at *
        rw [law13_tides_1.L0_eq]
        simp only [law13_tides_1.B0, beqT, beqF, exF_seq, exF_region, exF_block, exF_cond, exF_ret, exF_exit, exF_skip, runL, wantL, stepL, evL, LEnv.at, putL, loadFine, loadL, cellsAt, Trk.putNew, Trk.up, Trk.touch, Trk.gives, Trk.calm, Trk.hit, opdsOf, Trk.fresh, LEnv.keep, LEnv.ofFrom, List.map_cons, List.map_nil, nbeq, nble, nblt, ofAV, ofAVs, lenL, bin_add, bin_sub, bin_mul, bin_eql, bin_neq, bin_lss, bin_leq, bin_gtr, bin_geq, natL_nat, natL_zero, natL_one, natL_two, Nat.zero_mul, List.any_cons, List.any_nil, Bool.or_false, Bool.false_or, Bool.true_or, Bool.or_true, Bool.and_true, Bool.true_and, Bool.and_false, Bool.false_and, Bool.not_true, Bool.not_false, Nat.reduceBEq, Nat.reduceEqDiff, decide_true, decide_false, cond_true, cond_false, List.filter_nil, List.filter_cons, Nat.reduceAdd, Nat.reduceLeDiff, reduceCtorEq, List.length_nil, List.length_cons, Nat.mul_one, if_true, if_false, Bool.false_eq_true, eq_self, and_true, true_and, retL, resultsL, resAllL, resOfL, List.append_nil, List.nil_append, true_or, or_true, false_or, or_false, false_and, and_false, not_true_eq_false, not_false_eq_true, ne_eq, unL, trim_nil, LV.pures, LV.pure, Nat.reduceDiv, Int.reduceEq, Int.reduceLT, Int.reduceLE, Int.natCast_zero, allocL, List.getElem?_cons_zero, List.getElem?_cons_succ, storeL, spliceL, List.take_zero, List.take_succ_cons, List.drop_zero, List.drop_succ_cons, List.drop_nil, List.take_nil, Nat.le_refl, Nat.reduceMul, List.set_cons_zero, List.set_cons_succ, LV.scalar, List.all_cons, List.all_nil, Nat.lt_add_one, Nat.zero_lt_one, Nat.reduceLT, Nat.lt_irrefl, fillL, foldIntL, kind_beq, pures_int, solids_int, plains_int, unders_int, scalars_int, show ((x : Int) < (n : Int)) by omega, hc, Option.map_some, Option.map_none, hsl, LV.cells, hvx, freeze_nil, List.cons_append, happ, hge, hab, hp, p1, hws, q1]
    · rw [hh] at hc
      rw [hh, cond_true, List.length_nil, Nat.zero_add] at hz
      obtain ⟨m3, q1, q2, q3, q4⟩ := ih (x + 1) s m hz (by omega) hI hB
      refine ⟨m3, ?_, q2, q3, q4⟩
      rw [law13_tides_1.L0_eq]
      simp only [law13_tides_1.B0, beqT, beqF, exF_seq, exF_region, exF_block, exF_cond, exF_ret, exF_exit, exF_skip, runL, wantL, stepL, evL, LEnv.at, putL, loadFine, loadL, cellsAt, Trk.putNew, Trk.up, Trk.touch, Trk.gives, Trk.calm, Trk.hit, opdsOf, Trk.fresh, LEnv.keep, LEnv.ofFrom, List.map_cons, List.map_nil, nbeq, nble, nblt, ofAV, ofAVs, lenL, bin_add, bin_sub, bin_mul, bin_eql, bin_neq, bin_lss, bin_leq, bin_gtr, bin_geq, natL_nat, natL_zero, natL_one, natL_two, Nat.zero_mul, List.any_cons, List.any_nil, Bool.or_false, Bool.false_or, Bool.true_or, Bool.or_true, Bool.and_true, Bool.true_and, Bool.and_false, Bool.false_and, Bool.not_true, Bool.not_false, Nat.reduceBEq, Nat.reduceEqDiff, decide_true, decide_false, cond_true, cond_false, List.filter_nil, List.filter_cons, Nat.reduceAdd, Nat.reduceLeDiff, reduceCtorEq, List.length_nil, List.length_cons, Nat.mul_one, if_true, if_false, Bool.false_eq_true, eq_self, and_true, true_and, retL, resultsL, resAllL, resOfL, List.append_nil, List.nil_append, List.cons_append, true_or, or_true, false_or, or_false, false_and, and_false, not_true_eq_false, not_false_eq_true, ne_eq, unL, trim_nil, views_pures, LV.pures, LV.pure, freeze, Nat.reduceDiv, Int.reduceEq, Int.reduceLT, Int.reduceLE, Int.natCast_zero, LV.cells, allocL, List.getElem?_cons_zero, List.getElem?_cons_succ, storeL, spliceL, List.take_zero, List.take_succ_cons, List.drop_zero, List.drop_succ_cons, List.drop_nil, List.take_nil, Nat.le_refl, Nat.reduceMul, List.set_cons_zero, List.set_cons_succ, LV.scalar, List.all_cons, List.all_nil, Nat.lt_add_one, Nat.zero_lt_one, Nat.reduceLT, Nat.lt_irrefl, fillL, List.length_append, foldIntL, kind_beq, pures_int, solids_int, plains_int, unders_int, scalars_int, show ((x : Int) < (n : Int)) by omega, hc, wrap_succ (show x + 1 < 9223372036854775808 by omega), q1]
theorem put_t {σ : Type} {n : Nat} (h1 : 1 ≤ n) (h7 : n ≤ 7) (X : TVis σ n) (d : Nat) : PutT X d := by
  induction d with
  | zero =>
    intro s m l lv hz hI hl hnd hlt hB
    have hln : l.length = n := by omega
    rcases hB.cases with ⟨rfl, _⟩ | ⟨b, hn, rfl, h3, h4⟩
    · simp at hln; omega
    · obtain ⟨m1, v1, v2, v3, v4⟩ := X.hvis s m l b hI (by rw [perms, List.length_singleton] at hz; omega) ⟨hln, hnd, hlt⟩ h3 h4
      rw [hln]
      obtain ⟨k1, k2⟩ := trim_keep m.length [.tup []] m1 v3
      refine ⟨trim m.length [.tup []] m1, ?_, X.hT _ _ _ _ v2 (X.lt hI), k1, fun i i1 i2 => by rw [k2 i i2, v4 i i1 i2]⟩
      refine call_W lp_law13_tides_1 rfl ?_
      have hn' := X.hn s m hI
      have hv := X.hv s m hI
      simp only [List.cons_append, List.nil_append] at v1
      simp only [law13_tides_1, law13_tides_1.B, beqT, beqF, exF_seq, exF_region, exF_block, exF_cond, exF_ret, exF_exit, exF_skip, runL, wantL, stepL, evL, LEnv.at, putL, loadFine, loadL, cellsAt, Trk.putNew, Trk.up, Trk.touch, Trk.gives, Trk.calm, Trk.hit, opdsOf, Trk.fresh, LEnv.keep, LEnv.ofFrom, List.map_cons, List.map_nil, nbeq, nble, nblt, ofAV, ofAVs, lenL, bin_add, bin_sub, bin_mul, bin_eql, bin_neq, bin_lss, bin_leq, bin_gtr, bin_geq, natL_nat, natL_zero, natL_one, natL_two, Nat.zero_mul, List.any_cons, List.any_nil, Bool.or_false, Bool.false_or, Bool.true_or, Bool.or_true, Bool.and_true, Bool.true_and, Bool.and_false, Bool.false_and, Bool.not_true, Bool.not_false, Nat.reduceBEq, Nat.reduceEqDiff, decide_true, decide_false, cond_true, cond_false, List.filter_nil, List.filter_cons, Nat.reduceAdd, Nat.reduceLeDiff, reduceCtorEq, List.length_nil, List.length_cons, Nat.mul_one, if_true, if_false, Bool.false_eq_true, eq_self, and_true, true_and, retL, resultsL, resAllL, resOfL, List.append_nil, List.nil_append, List.cons_append, true_or, or_true, false_or, or_false, false_and, and_false, not_true_eq_false, not_false_eq_true, ne_eq, unL, trim_nil, views_pures, LV.pures, LV.pure, freeze, Nat.reduceDiv, Int.reduceEq, Int.reduceLT, Int.reduceLE, Int.natCast_zero, LV.cells, allocL, List.getElem?_cons_zero, List.getElem?_cons_succ, storeL, spliceL, List.take_zero, List.take_succ_cons, List.drop_zero, List.drop_succ_cons, List.drop_nil, List.take_nil, Nat.le_refl, Nat.reduceMul, List.set_cons_zero, List.set_cons_succ, LV.scalar, List.all_cons, List.all_nil, Nat.lt_add_one, Nat.zero_lt_one, Nat.reduceLT, Nat.lt_irrefl, fillL, List.length_append, foldIntL, kind_beq, pures_int, solids_int, plains_int, unders_int, scalars_int, hn', hv, v1]
  | succ d ih =>
    intro s m l lv hz hI hl hnd hlt hB
    obtain ⟨m1, p1, p2, p3, p4⟩ := tides_loop h7 X d ih l lv hl hnd hlt n 0 s m (by rw [perms] at hz; exact hz) (by omega) hI hB
    obtain ⟨k1, k2⟩ := trim_keep m.length [.tup []] m1 p3
    refine ⟨trim m.length [.tup []] m1, ?_, X.hT _ _ _ _ p2 (X.lt hI), k1, fun i i1 i2 => by rw [k2 i i2, p4 i i1 i2]⟩
    refine call_W lp_law13_tides_1 rfl ?_
    have hn' := X.hn s m hI
    have hne : ¬ ((l.length : Int) = (n : Int)) := by omega
    simp only [Int.natCast_zero] at p1
    rcases hB.cases with ⟨rfl, rfl⟩ | ⟨b, hn, rfl, h3, h4⟩
    · have hne : ¬ ((0 : Int) = (n : Int)) := by omega
      simp only [law13_tides_1, law13_tides_1.B, beqT, beqF, exF_seq, exF_region, exF_block, exF_cond, exF_ret, exF_exit, exF_skip, runL, wantL, stepL, evL, LEnv.at, putL, loadFine, loadL, cellsAt, Trk.putNew, Trk.up, Trk.touch, Trk.gives, Trk.calm, Trk.hit, opdsOf, Trk.fresh, LEnv.keep, LEnv.ofFrom, List.map_cons, List.map_nil, nbeq, nble, nblt, ofAV, ofAVs, lenL, bin_add, bin_sub, bin_mul, bin_eql, bin_neq, bin_lss, bin_leq, bin_gtr, bin_geq, natL_nat, natL_zero, natL_one, natL_two, Nat.zero_mul, List.any_cons, List.any_nil, Bool.or_false, Bool.false_or, Bool.true_or, Bool.or_true, Bool.and_true, Bool.true_and, Bool.and_false, Bool.false_and, Bool.not_true, Bool.not_false, Nat.reduceBEq, Nat.reduceEqDiff, decide_true, decide_false, cond_true, cond_false, List.filter_nil, List.filter_cons, Nat.reduceAdd, Nat.reduceLeDiff, reduceCtorEq, List.length_nil, List.length_cons, Nat.mul_one, if_true, if_false, Bool.false_eq_true, eq_self, and_true, true_and, retL, resultsL, resAllL, resOfL, List.append_nil, List.nil_append, List.cons_append, true_or, or_true, false_or, or_false, false_and, and_false, not_true_eq_false, not_false_eq_true, ne_eq, unL, trim_nil, views_pures, LV.pures, LV.pure, freeze, Nat.reduceDiv, Int.reduceEq, Int.reduceLT, Int.reduceLE, Int.natCast_zero, LV.cells, allocL, List.getElem?_cons_zero, List.getElem?_cons_succ, storeL, spliceL, List.take_zero, List.take_succ_cons, List.drop_zero, List.drop_succ_cons, List.drop_nil, List.take_nil, Nat.le_refl, Nat.reduceMul, List.set_cons_zero, List.set_cons_succ, LV.scalar, List.all_cons, List.all_nil, Nat.lt_add_one, Nat.zero_lt_one, Nat.reduceLT, Nat.lt_irrefl, fillL, List.length_append, foldIntL, kind_beq, pures_int, solids_int, plains_int, unders_int, scalars_int, hn', hne, p1]
    · simp only [law13_tides_1, law13_tides_1.B, beqT, beqF, exF_seq, exF_region, exF_block, exF_cond, exF_ret, exF_exit, exF_skip, runL, wantL, stepL, evL, LEnv.at, putL, loadFine, loadL, cellsAt, Trk.putNew, Trk.up, Trk.touch, Trk.gives, Trk.calm, Trk.hit, opdsOf, Trk.fresh, LEnv.keep, LEnv.ofFrom, List.map_cons, List.map_nil, nbeq, nble, nblt, ofAV, ofAVs, lenL, bin_add, bin_sub, bin_mul, bin_eql, bin_neq, bin_lss, bin_leq, bin_gtr, bin_geq, natL_nat, natL_zero, natL_one, natL_two, Nat.zero_mul, List.any_cons, List.any_nil, Bool.or_false, Bool.false_or, Bool.true_or, Bool.or_true, Bool.and_true, Bool.true_and, Bool.and_false, Bool.false_and, Bool.not_true, Bool.not_false, Nat.reduceBEq, Nat.reduceEqDiff, decide_true, decide_false, cond_true, cond_false, List.filter_nil, List.filter_cons, Nat.reduceAdd, Nat.reduceLeDiff, reduceCtorEq, List.length_nil, List.length_cons, Nat.mul_one, if_true, if_false, Bool.false_eq_true, eq_self, and_true, true_and, retL, resultsL, resAllL, resOfL, List.append_nil, List.nil_append, List.cons_append, true_or, or_true, false_or, or_false, false_and, and_false, not_true_eq_false, not_false_eq_true, ne_eq, unL, trim_nil, views_pures, LV.pures, LV.pure, freeze, Nat.reduceDiv, Int.reduceEq, Int.reduceLT, Int.reduceLE, Int.natCast_zero, LV.cells, allocL, List.getElem?_cons_zero, List.getElem?_cons_succ, storeL, spliceL, List.take_zero, List.take_succ_cons, List.drop_zero, List.drop_succ_cons, List.drop_nil, List.take_nil, Nat.le_refl, Nat.reduceMul, List.set_cons_zero, List.set_cons_succ, LV.scalar, List.all_cons, List.all_nil, Nat.lt_add_one, Nat.zero_lt_one, Nat.reduceLT, Nat.lt_irrefl, fillL, List.length_append, foldIntL, kind_beq, pures_int, solids_int, plains_int, unders_int, scalars_int, hn', hne, p1]
/-- All tides are gone through. -/
theorem tides_c {σ : Type} {n : Nat} (h1 : 1 ≤ n) (h7 : n ≤ 7) (X : TVis σ n) (m : LMem) (ha : X.a = m.length) (s : σ) (hz : X.size s + (perms n n []).length ≤ 1000000) (hI : X.I s (m ++ [⟨[.int .i64 (n : Int)], true⟩, ⟨[.func X.f X.first X.cap], true⟩, ⟨[.func n_law13_tides_1 [] [.ptr m.length 0 1, .ptr (m.length + 1) 0 1, .ptr (m.length + 2) 0 1]], true⟩])) :
    ∃ m', clF LP n_law13_tides [.int .i64 (n : Int), .func X.f X.first X.cap] m = some (.W, .tup [], trim m.length [.tup []] m') ∧ X.I ((perms n n []).foldl X.vis s) m' ∧ m.length + 3 ≤ m'.length := by
  obtain ⟨m1, p1, p2, p3, _⟩ := put_t h1 h7 X n s _ [] (.lst true true 0 0 []) hz hI (by simp) List.nodup_nil (by simp) ⟨0, rfl, fun c => absurd rfl c⟩
  refine ⟨m1, ?_, p2, by simpa using p3⟩
  rw [ha] at p1
  refine call_W lp_law13_tides rfl ?_
  have e1 : ∀ (A B : LBlk), (m ++ [A] ++ [B]).length = m.length + 2 := by intros; simp
  have e2 : ∀ (A : LBlk), (m ++ [A]).length = m.length + 1 := by intros; simp
  have g2 : ∀ (A B C : LBlk), (m ++ [A] ++ [B] ++ [C])[m.length + 2]? = some C := by intros; simp
  have g3 : ∀ (A B C D : LBlk), (m ++ [A] ++ [B] ++ [C]).set (m.length + 2) D = m ++ [A] ++ [B] ++ [D] := by
    intros A B C D
    rw [List.set_append_right _ _ (by simp)]
    simp
  have e3 : ∀ (A B C : LBlk), m ++ [A] ++ [B] ++ [C] = m ++ [A, B, C] := by intros; simp
  rw [← e3] at p1
  simp only [law13_tides, law13_tides.B, beqT, beqF, exF_seq, exF_region, exF_block, exF_cond, exF_ret, exF_exit, exF_skip, runL, wantL, stepL, evL, LEnv.at, putL, loadFine, loadL, cellsAt, Trk.putNew, Trk.up, Trk.touch, Trk.gives, Trk.calm, Trk.hit, opdsOf, Trk.fresh, LEnv.keep, LEnv.ofFrom, List.map_cons, List.map_nil, nbeq, nble, nblt, ofAV, ofAVs, lenL, bin_add, bin_sub, bin_mul, bin_eql, bin_neq, bin_lss, bin_leq, bin_gtr, bin_geq, natL_nat, natL_zero, natL_one, natL_two, Nat.zero_mul, List.any_cons, List.any_nil, Bool.or_false, Bool.false_or, Bool.true_or, Bool.or_true, Bool.and_true, Bool.true_and, Bool.and_false, Bool.false_and, Bool.not_true, Bool.not_false, Nat.reduceBEq, Nat.reduceEqDiff, decide_true, decide_false, cond_true, cond_false, List.filter_nil, List.filter_cons, Nat.reduceAdd, Nat.reduceLeDiff, reduceCtorEq, List.length_nil, List.length_cons, Nat.mul_one, if_true, if_false, Bool.false_eq_true, eq_self, and_true, true_and, retL, resultsL, resAllL, resOfL, List.append_nil, List.nil_append, true_or, or_true, false_or, or_false, false_and, and_false, not_true_eq_false, not_false_eq_true, ne_eq, unL, trim_nil, LV.pures, LV.pure, Nat.reduceDiv, Int.reduceEq, Int.reduceLT, Int.reduceLE, Int.natCast_zero, allocL, List.getElem?_cons_zero, List.getElem?_cons_succ, storeL, spliceL, List.take_zero, List.take_succ_cons, List.drop_zero, List.drop_succ_cons, List.drop_nil, List.take_nil, Nat.le_refl, Nat.reduceMul, List.set_cons_zero, List.set_cons_succ, LV.scalar, List.all_cons, List.all_nil, Nat.lt_add_one, Nat.zero_lt_one, Nat.reduceLT, Nat.lt_irrefl, fillL, foldIntL, kind_beq, pures_int, solids_int, plains_int, unders_int, scalars_int, LV.cells, List.cons_append, e1, e2, g2, g3, p1]
end Go.Am.Wash


