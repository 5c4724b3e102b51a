import Derived.Test.YthnaeifkngeenaaDoorPdE3
import Derived.Test.YthnaeifkngeenaaDoorPdC16
import Derived.Test.YthnaeifkngeenaaDoorPdD1
import Derived.Test.YthnaeifkngeenaaDoorPdC15
/-
  What functions of chapter 12 compute, by tables 5: the law 'PostPacked'.
-/
set_option linter.unusedVariables false
set_option linter.unusedSimpArgs false
set_option maxRecDepth 10000
set_option maxHeartbeats 2000000
namespace Go.Am.Post
open Go.Am.G

theorem firstS_len {s : List Int} (K : OkS s) (p : Nat → Nat) : (firstS s p).length ≤ 10 := by
  have := asc_len (firstS_asc s p); have := K.le; omega

end Go.Am.Post

/-
  What functions of chapter 12 compute, by tables 6: plain facts of the law 'PostOdd'.
-/
set_option linter.unusedVariables false
set_option linter.unusedSimpArgs false
set_option maxRecDepth 10000
namespace Go.Am.Post
open Go.Am.G

/-! ### What the loop finds -/
structure Od where
  c : Nat
  w : Nat
  f : Nat
  a : Nat
  n : Nat
def Od.step (all k x : Nat) (t : Od) : Od :=
  if k < t.f then ⟨t.c + 1, 1, k, all &&& x, andN all x⟩ else if k = t.f then ⟨t.c + 1, t.w + 1, t.f, t.a &&& x, andN t.n x⟩ else ⟨t.c + 1, t.w, t.f, t.a, t.n⟩
structure OdOk (n : Nat) (L : List (List Nat)) (t : Od) : Prop where
  c : t.c = L.length
  f : t.f ≤ 99
  e : L = [] → t.f = 99
  lo : ∀ l ∈ L, t.f ≤ l.length
  hi : L ≠ [] → ∃ l ∈ L, l.length = t.f
  w : t.w = (L.filter fun l => decide (l.length = t.f)).length
  a : L ≠ [] → ∀ i, t.a.testBit i = true ↔ i < n ∧ ∀ l ∈ L, l.length = t.f → i ∈ l
  n : L ≠ [] → ∀ i, t.n.testBit i = true ↔ i < n ∧ ∀ l ∈ L, l.length = t.f → i ∉ l
/-! ### The end -/
section
variable {s : List Int} (K : OkS s)
include K
end
end Go.Am.Post

/-
  What functions of chapter 12 compute, by tables 8: the law 'PostCheap'.
-/
set_option linter.unusedVariables false
set_option linter.unusedSimpArgs false
set_option maxRecDepth 10000
set_option maxHeartbeats 2000000
namespace Go.Am.Post
open Go.Am.G

/-! ### Equal prices -/
theorem find_congr {α : Type} {p q : α → Bool} : ∀ {L : List α}, (∀ l ∈ L, p l = q l) → L.find? p = L.find? q
  | [], _ => rfl
  | a :: r, h => by rw [List.find?_cons, List.find?_cons, h a (by simp), find_congr fun l hl => h l (by simp [hl])]
theorem cost_eq (p : Nat → Nat) (n c : Nat) (hp : ∀ i, i < n → p i = c) : ∀ S : List Nat, (∀ x ∈ S, x < n) → cost p S = c * S.length
  | [], _ => by simp [cost]
  | a :: r, h => by
    have ih := cost_eq p n c hp r fun x hx => h x (by simp [hx])
    simp only [cost, List.map_cons, List.sum_cons, List.length_cons] at *
    rw [ih, hp a (h a (by simp)), Nat.mul_add, Nat.mul_one, Nat.add_comm]
theorem first_equal (s : List Int) (p : Nat → Nat) (c : Nat) (hc : 0 < c) (hp : ∀ i, i < s.length → p i = c) : firstS s p = firstS s (fun _ => 1) := by
  have hcost : ∀ S ∈ asc 0 s.length, cost p S = c * S.length := fun S hS => cost_eq p _ c hp S fun x hx => by have := ((mem_asc _ _ _).1 hS).2 x hx; omega
  have g1 := firstS_good s p
  have g2 := firstS_good s (fun _ => 1)
  have a1 := firstS_asc s p
  have a2 := firstS_asc s (fun _ => 1)
  have m1 := best_min p a2 g2.1
  have m2 := best_min (fun _ => 1) a1 g1.1
  rw [hcost _ a2] at m1
  rw [cost_one] at m2
  have e1 := g1.2
  have e2 := g2.2
  rw [hcost _ a1] at e1
  rw [cost_one] at e2
  have hbest : bestC s p = c * bestC s (fun _ => 1) := by
    rw [e2] at m1
    have := Nat.mul_le_mul_left c m2
    omega
  have f1 := firstS_find s p
  have f2 := firstS_find s (fun _ => 1)
  have e : (asc 0 s.length).find? (goodC (par s) s.length p (bestC s p)) = (asc 0 s.length).find? (goodC (par s) s.length (fun _ => 1) (bestC s (fun _ => 1))) := by
    refine find_congr fun l hl => ?_
    rw [goodC, goodC, hcost l hl, cost_one, hbest]
    congr 1
    rw [Bool.eq_iff_iff, decide_eq_true_eq, decide_eq_true_eq]
    exact ⟨fun h => Nat.eq_of_mul_eq_mul_left hc h, fun h => by rw [h]⟩
  rw [e, f2] at f1
  exact (Option.some.inj f1).symm

/-! ### The cheapest one -/
def betC (p : Nat → Nat) (l c : List Nat) : Bool := decide (cost p l < cost p c) || (decide (cost p l = cost p c) && decide (lexI (ci l) (ci c) < 0))
theorem cheap_pick {s : List Int} (K : OkS s) (p : Nat → Nat) : pick (grdB s) (betC p) ((List.range' 0 (2 ^ s.length)).map memL) none = some (firstS s p) := by
  have hw := firstS_asc s p
  have hg := firstS_good s p
  rw [← List.range_eq_range']
  have hgood : ∀ {l}, l ∈ asc 0 s.length → grdB s l = true → cost p l = bestC s p → goodC (par s) s.length p (bestC s p) l = true := fun {l} hl h e => by
    rw [goodC, ← grd_dom K hl, h, e]; simp
  refine pick_ok _ _ (fun l => l ∈ asc 0 s.length) _ (by rw [grd_dom K hw]; exact hg.1) (fun l hl hgl hne => ?_) (fun l hl hgl => ?_) _ _ (fun l hl => (sets_mem K.le l).1 hl) (fun c hc => by cases hc) (.inr ((sets_mem K.le _).2 hw))
  all_goals
    have h1 := best_min p hl (by rw [← grd_dom K hl]; exact hgl)
  · unfold betC
    rw [hg.2]
    by_cases c : bestC s p < cost p l
    · simp [c]
    · have e : cost p l = bestC s p := by omega
      have := find_lex (asc_lex _ _) (firstS_find s p) l hl (hgood hl hgl e) hne
      unfold lexLt at this
      simp [e, this]
  · unfold betC
    rw [hg.2]
    have c : ¬ cost p l < bestC s p := by omega
    by_cases e : cost p l = bestC s p
    · have : ¬ lexI (ci l) (ci (firstS s p)) < 0 := by
        by_cases q : l = firstS s p
        · rw [q]; exact lexLt_irr _
        · exact lexLt_asym (find_lex (asc_lex _ _) (firstS_find s p) l hl (hgood hl hgl e) q)
      simp only [e, Nat.lt_irrefl, decide_false, Bool.false_or, decide_true, Bool.true_and, this]
    · simp [c, e]

/-! ### The prices -/
def prL (k : Nat) (cs : List Nat) : List Int := (List.range k).map fun i => ((1 + cs.getD i 0 % 20 : Nat) : Int)
def eqL (k q : Nat) : List Int := (List.range k).map fun _ => ((1 + q % 20 : Nat) : Int)
theorem prL_len (k : Nat) (cs : List Nat) : (prL k cs).length = k := by simp [prL]
theorem eqL_len (k q : Nat) : (eqL k q).length = k := by simp [eqL]
theorem prL_succ (k : Nat) (cs : List Nat) : prL (k + 1) cs = prL k cs ++ [((1 + cs.getD k 0 % 20 : Nat) : Int)] := by simp [prL, List.range_succ]
theorem eqL_succ (k q : Nat) : eqL (k + 1) q = eqL k q ++ [((1 + q % 20 : Nat) : Int)] := by simp [eqL, List.range_succ]
theorem prL_range (k : Nat) (cs : List Nat) : ∀ x ∈ prL k cs, 1 ≤ x ∧ x ≤ 20 := fun x hx => by
  obtain ⟨i, _, rfl⟩ := List.mem_map.1 hx
  have := Nat.mod_lt (cs.getD i 0) (show 0 < 20 by omega)
  omega
theorem eqL_range (k q : Nat) : ∀ x ∈ eqL k q, 1 ≤ x ∧ x ≤ 20 := fun x hx => by
  obtain ⟨i, _, rfl⟩ := List.mem_map.1 hx
  have := Nat.mod_lt q (show 0 < 20 by omega)
  omega
theorem eqL_at (k q i : Nat) (h : i < k) : prC (eqL k q) i = 1 + q % 20 := by
  unfold prC eqL
  simp [List.getD_eq_getElem?_getD, h]
  omega
abbrev QP (w11 w10 : List LV) (p e : List Int) (o1 o2 : Bool) : LMem := [⟨w11, true⟩, ⟨w10, true⟩, ⟨ints p, o1⟩, ⟨ints e, o2⟩]
theorem qm_p (w11 w10 : List LV) (p e : List Int) (k : Nat) (y : Int) (hp : p.length = k) (h1 : 1 ≤ k) (h2 : k < 1000) : appendL (QP w11 w10 p e true true) 1 8 (.sl 2 0 k k 1 1 k) (.lst false true 1 1 [.int .i64 y]) = some (.sl 2 0 (k + 1) (k + 1) 1 1 (k + 1), QP w11 w10 (p ++ [y]) e true true) := by
  have h := app_at (QP w11 w10 p e true true) 2 k (ints p) (.int .i64 y) rfl rfl (by simp [hp]) h1 h2
  rw [h]; simp
theorem qm_e (w11 w10 : List LV) (p e : List Int) (k : Nat) (y : Int) (hp : e.length = k) (h1 : 1 ≤ k) (h2 : k < 1000) : appendL (QP w11 w10 p e true true) 1 8 (.sl 3 0 k k 1 1 k) (.lst false true 1 1 [.int .i64 y]) = some (.sl 3 0 (k + 1) (k + 1) 1 1 (k + 1), QP w11 w10 p (e ++ [y]) true true) := by
  have h := app_at (QP w11 w10 p e true true) 3 k (ints e) (.int .i64 y) rfl rfl (by simp [hp]) h1 h2
  rw [h]; simp
theorem qm_0 (m : LMem) (y : Int) : appendL m 1 8 (.lst true true 0 0 []) (.lst false true 1 1 [.int .i64 y]) = some (.sl m.length 0 1 1 1 1 1, m ++ [⟨[.int .i64 y], true⟩]) := rfl
theorem price_at {cs : List Nat} (hc10 : cs.length = 10) (hcb : ∀ x ∈ cs, x < 256) {k : Nat} (hk : k < 10) : (bys cs)[k]? = some (.int .u8 ((cs.getD k 0 : Nat) : Int)) ∧ IntKind.i64.wrap ((cs.getD k 0 : Nat) : Int) = ((cs.getD k 0 : Nat) : Int) ∧ binL .rem (.int .i64 ((cs.getD k 0 : Nat) : Int)) (.int .i64 20) = some (.int .i64 ((cs.getD k 0 % 20 : Nat) : Int)) ∧ IntKind.i64.wrap (1 + ((cs.getD k 0 % 20 : Nat) : Int)) = ((1 + cs.getD k 0 % 20 : Nat) : Int) := by
  have hkl : k < cs.length := by omega
  have hx : cs.getD k 0 < 256 := by
    rw [List.getD_eq_getElem?_getD, List.getElem?_eq_getElem hkl]; exact hcb _ (List.getElem_mem _)
  refine ⟨by simp [List.getD_eq_getElem?_getD, hkl], wrap_in (by omega), ?_, by rw [wrap_in (by omega)]; simp⟩
  rw [bin_rem _ _ _ (show (20 : Int) ≠ 0 by omega)]; rfl
theorem prices_step (cs : List Nat) (hc10 : cs.length = 10) (hcb : ∀ x ∈ cs, x < 256) (q : Nat) (hq : q < 256) (S H N : LV) (w11 : List LV) (k : Nat) (h1 : 1 ≤ k) (h10 : k < 10) (i : LV) :
    exF LP law12_PostCheap.B0.R0 [(2, .int .u8 (q : Int)), (4, .ptr 1 0 10), (7, S), (8, H), (9, .sl 2 0 k k 1 1 k), (10, .sl 3 0 k k 1 1 k), (11, .int .i64 (k : Int)), (32, N), (33, i)] (QP w11 (bys cs) (prL k cs) (eqL k q) true true) =
      some (.normal, [(2, .int .u8 (q : Int)), (4, .ptr 1 0 10), (7, S), (8, H), (9, .sl 2 0 (k + 1) (k + 1) 1 1 (k + 1)), (10, .sl 3 0 (k + 1) (k + 1) 1 1 (k + 1)), (32, N), (33, i)], QP w11 (bys cs) (prL (k + 1) cs) (eqL (k + 1) q) true true) := by
  obtain ⟨e1, e2, e3, e4⟩ := price_at hc10 hcb h10
  have g2 : IntKind.i64.wrap ((q : Nat) : Int) = ((q : Nat) : Int) := wrap_in (by omega)
  have g3 : binL .rem (.int .i64 ((q : Nat) : Int)) (.int .i64 20) = some (.int .i64 ((q % 20 : Nat) : Int)) := by
    rw [bin_rem _ _ _ (show (20 : Int) ≠ 0 by omega)]; rfl
  have g4 : IntKind.i64.wrap (1 + ((q % 20 : Nat) : Int)) = ((1 + q % 20 : Nat) : Int) := by rw [wrap_in (by omega)]; simp
  have a1 := qm_p w11 (bys cs) (prL k cs) (eqL k q) k ((1 + cs.getD k 0 % 20 : Nat) : Int) (prL_len _ _) h1 (by omega)
  have a2 := qm_e w11 (bys cs) (prL (k + 1) cs) (eqL k q) k ((1 + q % 20 : Nat) : Int) (eqL_len _ _) h1 (by omega)
  rw [← prL_succ] at a1
  rw [← eqL_succ] at a2
  have hbl : (bys cs).length = 10 := by simp [hc10]
  have hvx : ∀ (x : Int) m, views m [.int .i64 x] = some ([.int .i64 x], []) := fun x m => views_pures m _ (by simp [LV.pures, LV.pure])
  have m1 : (QP w11 (bys cs) (prL k cs) (eqL k q) true true)[1]? = some ⟨bys cs, true⟩ := rfl
  have hk10 : k < 10 := h10
  generalize QP w11 (bys cs) (prL k cs) (eqL k q) true true = M0 at *
  generalize QP w11 (bys cs) (prL (k + 1) cs) (eqL k q) true true = M1 at *
  generalize QP w11 (bys cs) (prL (k + 1) cs) (eqL (k + 1) q) true true = M2 at *
  generalize 1 + cs.getD k 0 % 20 = y at *
  generalize cs.getD k 0 % 20 = z at *
  generalize cs.getD k 0 = x at *
  generalize 1 + q % 20 = y2 at *
  generalize q % 20 = z2 at *
  generalize bys cs = wc at *
  simp (maxSteps := 1000000) only [law12_PostCheap.B0.R0, beqT, beqF, exF_seq, exF_region, exF_block, exF_cond, exF_ret, exF_exit, exF_skip, runL, wantL, stepL, evL, evC, LEnv.at, putL, loadFine, loadL, cellsAt, Trk.putNew, Trk.up, Trk.touch, Trk.gives, Trk.calm, Trk.hit, opdsOf, Trk.fresh, LEnv.keep, LEnv.ofFrom, List.map_cons, List.map_nil, nbeq, nble, nblt, ofAV, ofAVs, lenL, bin_add, bin_sub, bin_mul, bin_eql, bin_neq, bin_lss, bin_leq, bin_gtr, bin_geq, natL_nat, natL_zero, natL_one, natL_two, Nat.zero_mul, List.any_cons, List.any_nil, Bool.or_false, Bool.false_or, Bool.true_or, Bool.or_true, Bool.and_true, Bool.true_and, Bool.and_false, Bool.false_and, Bool.not_true, Bool.not_false, Nat.reduceBEq, Nat.reduceEqDiff, decide_true, decide_false, cond_true, cond_false, List.filter_nil, List.filter_cons, Nat.reduceAdd, Nat.reduceLeDiff, reduceCtorEq, List.length_nil, List.length_cons, Nat.mul_one, if_true, if_false, Bool.false_eq_true, eq_self, and_true, true_and, retL, resultsL, resAllL, resOfL, List.append_nil, List.nil_append, true_or, or_true, false_or, or_false, false_and, and_false, not_true_eq_false, not_false_eq_true, ne_eq, unL, trim_nil, LV.pures, LV.pure, Nat.reduceDiv, Int.reduceEq, Int.reduceLT, Int.reduceLE, Int.natCast_zero, allocL, List.getElem?_cons_zero, List.getElem?_cons_succ, storeL, spliceL, List.take_zero, List.take_succ_cons, List.drop_zero, List.drop_succ_cons, List.drop_nil, List.take_nil, Nat.le_refl, Nat.reduceMul, List.set_cons_zero, List.set_cons_succ, LV.scalar, List.all_cons, List.all_nil, Nat.lt_add_one, Nat.zero_lt_one, Nat.reduceLT, Nat.lt_irrefl, fillL, foldIntL, kind_beq, pures_int, solids_int, plains_int, unders_int, scalars_int, m1, hbl, hk10, Nat.zero_add, e1, e2, e3, e4, g2, g3, g4, LV.cells, hvx, freeze_nil, a1, a2]
theorem prices_first (cs : List Nat) (hc10 : cs.length = 10) (hcb : ∀ x ∈ cs, x < 256) (q : Nat) (hq : q < 256) (S H N : LV) (w11 : List LV) (i : LV) :
    exF LP law12_PostCheap.B0.R0 [(2, .int .u8 (q : Int)), (4, .ptr 1 0 10), (7, S), (8, H), (9, .lst true true 0 0 []), (10, .lst true true 0 0 []), (11, .int .i64 0), (32, N), (33, i)] [⟨w11, true⟩, ⟨bys cs, true⟩] =
      some (.normal, [(2, .int .u8 (q : Int)), (4, .ptr 1 0 10), (7, S), (8, H), (9, .sl 2 0 1 1 1 1 1), (10, .sl 3 0 1 1 1 1 1), (32, N), (33, i)], QP w11 (bys cs) (prL 1 cs) (eqL 1 q) true true) := by
  obtain ⟨e1, e2, e3, e4⟩ := price_at hc10 hcb (k := 0) (by omega)
  have g2 : IntKind.i64.wrap ((q : Nat) : Int) = ((q : Nat) : Int) := wrap_in (by omega)
  have g3 : binL .rem (.int .i64 ((q : Nat) : Int)) (.int .i64 20) = some (.int .i64 ((q % 20 : Nat) : Int)) := by
    rw [bin_rem _ _ _ (show (20 : Int) ≠ 0 by omega)]; rfl
  have g4 : IntKind.i64.wrap (1 + ((q % 20 : Nat) : Int)) = ((1 + q % 20 : Nat) : Int) := by rw [wrap_in (by omega)]; simp
  have a1 : appendL [⟨w11, true⟩, ⟨bys cs, true⟩] 1 8 (.lst true true 0 0 []) (.lst false true 1 1 [.int .i64 ((1 + cs.getD 0 0 % 20 : Nat) : Int)]) = some (.sl 2 0 1 1 1 1 1, [⟨w11, true⟩, ⟨bys cs, true⟩, ⟨ints (prL 1 cs), true⟩]) := qm_0 _ _
  have a2 : appendL [⟨w11, true⟩, ⟨bys cs, true⟩, ⟨ints (prL 1 cs), true⟩] 1 8 (.lst true true 0 0 []) (.lst false true 1 1 [.int .i64 ((1 + q % 20 : Nat) : Int)]) = some (.sl 3 0 1 1 1 1 1, QP w11 (bys cs) (prL 1 cs) (eqL 1 q) true true) := qm_0 _ _
  have hbl : (bys cs).length = 10 := by simp [hc10]
  have hvx : ∀ (x : Int) m, views m [.int .i64 x] = some ([.int .i64 x], []) := fun x m => views_pures m _ (by simp [LV.pures, LV.pure])
  have m1 : ([⟨w11, true⟩, ⟨bys cs, true⟩] : LMem)[1]? = some ⟨bys cs, true⟩ := rfl
  generalize ([⟨w11, true⟩, ⟨bys cs, true⟩, ⟨ints (prL 1 cs), true⟩] : LMem) = M1 at *
  generalize ([⟨w11, true⟩, ⟨bys cs, true⟩] : LMem) = M0 at *
  generalize QP w11 (bys cs) (prL 1 cs) (eqL 1 q) true true = M2 at *
  generalize 1 + cs.getD 0 0 % 20 = y at *
  generalize cs.getD 0 0 % 20 = z at *
  generalize cs.getD 0 0 = x at *
  generalize 1 + q % 20 = y2 at *
  generalize q % 20 = z2 at *
  generalize bys cs = wc at *
  simp (maxSteps := 1000000) only [law12_PostCheap.B0.R0, beqT, beqF, exF_seq, exF_region, exF_block, exF_cond, exF_ret, exF_exit, exF_skip, runL, wantL, stepL, evL, evC, LEnv.at, putL, loadFine, loadL, cellsAt, Trk.putNew, Trk.up, Trk.touch, Trk.gives, Trk.calm, Trk.hit, opdsOf, Trk.fresh, LEnv.keep, LEnv.ofFrom, List.map_cons, List.map_nil, nbeq, nble, nblt, ofAV, ofAVs, lenL, bin_add, bin_sub, bin_mul, bin_eql, bin_neq, bin_lss, bin_leq, bin_gtr, bin_geq, natL_nat, natL_zero, natL_one, natL_two, Nat.zero_mul, List.any_cons, List.any_nil, Bool.or_false, Bool.false_or, Bool.true_or, Bool.or_true, Bool.and_true, Bool.true_and, Bool.and_false, Bool.false_and, Bool.not_true, Bool.not_false, Nat.reduceBEq, Nat.reduceEqDiff, decide_true, decide_false, cond_true, cond_false, List.filter_nil, List.filter_cons, Nat.reduceAdd, Nat.reduceLeDiff, reduceCtorEq, List.length_nil, List.length_cons, Nat.mul_one, if_true, if_false, Bool.false_eq_true, eq_self, and_true, true_and, retL, resultsL, resAllL, resOfL, List.append_nil, List.nil_append, true_or, or_true, false_or, or_false, false_and, and_false, not_true_eq_false, not_false_eq_true, ne_eq, unL, trim_nil, LV.pures, LV.pure, Nat.reduceDiv, Int.reduceEq, Int.reduceLT, Int.reduceLE, Int.natCast_zero, allocL, List.getElem?_cons_zero, List.getElem?_cons_succ, storeL, spliceL, List.take_zero, List.take_succ_cons, List.drop_zero, List.drop_succ_cons, List.drop_nil, List.take_nil, Nat.le_refl, Nat.reduceMul, List.set_cons_zero, List.set_cons_succ, LV.scalar, List.all_cons, List.all_nil, Nat.lt_add_one, Nat.zero_lt_one, Nat.reduceLT, Nat.lt_irrefl, fillL, foldIntL, kind_beq, pures_int, solids_int, plains_int, unders_int, scalars_int, m1, hbl, Nat.zero_add, e1, e2, e3, e4, g2, g3, g4, LV.cells, hvx, freeze_nil, a1, a2]
theorem prices_loop (cs : List Nat) (hc10 : cs.length = 10) (hcb : ∀ x ∈ cs, x < 256) (q : Nat) (hq : q < 256) (S H : LV) (w11 : List LV) (n : Nat) (hn : n ≤ 10) (d : Nat) : ∀ (k : Nat), 1 ≤ k → k + d = n →
    exF LP law12_PostCheap.L0 [(2, .int .u8 (q : Int)), (4, .ptr 1 0 10), (7, S), (8, H), (9, .sl 2 0 k k 1 1 k), (10, .sl 3 0 k k 1 1 k), (32, .int .i64 (n : Int)), (33, .int .i64 (k : Int))] (QP w11 (bys cs) (prL k cs) (eqL k q) true true) =
      some (.exit 0, [(7, S), (8, H), (9, .sl 2 0 n n 1 1 n), (10, .sl 3 0 n n 1 1 n)], QP w11 (bys cs) (prL n cs) (eqL n q) true true) := by
  induction d with
  | zero =>
    intro k h1 hk
    obtain rfl : k = n := by omega
    rw [law12_PostCheap.L0_eq]
    simp only [law12_PostCheap.B0, beqT, beqF, exF_seq, exF_region, exF_block, exF_cond, exF_ret, exF_exit, exF_skip, runL, wantL, stepL, evL, evC, LEnv.at, putL, loadFine, loadL, cellsAt, Trk.putNew, Trk.up, Trk.touch, Trk.gives, Trk.calm, Trk.hit, opdsOf, Trk.fresh, LEnv.keep, LEnv.ofFrom, List.map_cons, List.map_nil, nbeq, nble, nblt, ofAV, ofAVs, lenL, bin_add, bin_sub, bin_mul, bin_eql, bin_neq, bin_lss, bin_leq, bin_gtr, bin_geq, natL_nat, natL_zero, natL_one, natL_two, Nat.zero_mul, List.any_cons, List.any_nil, Bool.or_false, Bool.false_or, Bool.true_or, Bool.or_true, Bool.and_true, Bool.true_and, Bool.and_false, Bool.false_and, Bool.not_true, Bool.not_false, Nat.reduceBEq, Nat.reduceEqDiff, decide_true, decide_false, cond_true, cond_false, List.filter_nil, List.filter_cons, Nat.reduceAdd, Nat.reduceLeDiff, reduceCtorEq, List.length_nil, List.length_cons, Nat.mul_one, if_true, if_false, Bool.false_eq_true, eq_self, and_true, true_and, retL, resultsL, resAllL, resOfL, List.append_nil, List.nil_append, List.cons_append, true_or, or_true, false_or, or_false, false_and, and_false, not_true_eq_false, not_false_eq_true, ne_eq, unL, trim_nil, views_pures, LV.pures, LV.pure, freeze, Nat.reduceDiv, Int.reduceEq, Int.reduceLT, Int.reduceLE, Int.natCast_zero, LV.cells, allocL, List.getElem?_cons_zero, List.getElem?_cons_succ, storeL, spliceL, List.take_zero, List.take_succ_cons, List.drop_zero, List.drop_succ_cons, List.drop_nil, List.take_nil, Nat.le_refl, Nat.reduceMul, List.set_cons_zero, List.set_cons_succ, LV.scalar, List.all_cons, List.all_nil, Nat.lt_add_one, Nat.zero_lt_one, Nat.reduceLT, Nat.lt_irrefl, fillL, List.length_append, foldIntL, kind_beq, pures_int, solids_int, plains_int, unders_int, scalars_int, Int.lt_irrefl]
  | succ d ih =>
    intro k h1 hk
    have ih := ih (k + 1) (by omega) (by omega)
    have hs := prices_step cs hc10 hcb q hq S H (.int .i64 (n : Int)) w11 k h1 (by omega) (.int .i64 (k : Int))
    have hws := wrap_succ (show k + 1 < 9223372036854775808 by omega)
    generalize QP w11 (bys cs) (prL k cs) (eqL k q) true true = M0 at *
    generalize QP w11 (bys cs) (prL (k + 1) cs) (eqL (k + 1) q) true true = M2 at *
    rw [law12_PostCheap.L0_eq]
    simp only [law12_PostCheap.B0, beqT, beqF, exF_seq, exF_region, exF_block, exF_cond, exF_ret, exF_exit, exF_skip, runL, wantL, stepL, evL, evC, LEnv.at, putL, loadFine, loadL, cellsAt, Trk.putNew, Trk.up, Trk.touch, Trk.gives, Trk.calm, Trk.hit, opdsOf, Trk.fresh, LEnv.keep, LEnv.ofFrom, List.map_cons, List.map_nil, nbeq, nble, nblt, ofAV, ofAVs, lenL, bin_add, bin_sub, bin_mul, bin_eql, bin_neq, bin_lss, bin_leq, bin_gtr, bin_geq, natL_nat, natL_zero, natL_one, natL_two, Nat.zero_mul, List.any_cons, List.any_nil, Bool.or_false, Bool.false_or, Bool.true_or, Bool.or_true, Bool.and_true, Bool.true_and, Bool.and_false, Bool.false_and, Bool.not_true, Bool.not_false, Nat.reduceBEq, Nat.reduceEqDiff, decide_true, decide_false, cond_true, cond_false, List.filter_nil, List.filter_cons, Nat.reduceAdd, Nat.reduceLeDiff, reduceCtorEq, List.length_nil, List.length_cons, Nat.mul_one, if_true, if_false, Bool.false_eq_true, eq_self, and_true, true_and, retL, resultsL, resAllL, resOfL, List.append_nil, List.nil_append, List.cons_append, true_or, or_true, false_or, or_false, false_and, and_false, not_true_eq_false, not_false_eq_true, ne_eq, unL, trim_nil, views_pures, LV.pures, LV.pure, freeze, Nat.reduceDiv, Int.reduceEq, Int.reduceLT, Int.reduceLE, Int.natCast_zero, LV.cells, allocL, List.getElem?_cons_zero, List.getElem?_cons_succ, storeL, spliceL, List.take_zero, List.take_succ_cons, List.drop_zero, List.drop_succ_cons, List.drop_nil, List.take_nil, Nat.le_refl, Nat.reduceMul, List.set_cons_zero, List.set_cons_succ, LV.scalar, List.all_cons, List.all_nil, Nat.lt_add_one, Nat.zero_lt_one, Nat.reduceLT, Nat.lt_irrefl, fillL, List.length_append, foldIntL, kind_beq, pures_int, solids_int, plains_int, unders_int, scalars_int, show ((k : Int) < (n : Int)) by omega, hs, hws, ih]
theorem prices_all (cs : List Nat) (hc10 : cs.length = 10) (hcb : ∀ x ∈ cs, x < 256) (q : Nat) (hq : q < 256) (S H : LV) (w11 : List LV) (n : Nat) (h1 : 1 ≤ n) (hn : n ≤ 10) :
    exF LP law12_PostCheap.L0 [(2, .int .u8 (q : Int)), (4, .ptr 1 0 10), (7, S), (8, H), (9, .lst true true 0 0 []), (10, .lst true true 0 0 []), (32, .int .i64 (n : Int)), (33, .int .i64 0)] [⟨w11, true⟩, ⟨bys cs, true⟩] =
      some (.exit 0, [(7, S), (8, H), (9, .sl 2 0 n n 1 1 n), (10, .sl 3 0 n n 1 1 n)], QP w11 (bys cs) (prL n cs) (eqL n q) true true) := by
  have hs := prices_first cs hc10 hcb q hq S H (.int .i64 (n : Int)) w11 (.int .i64 0)
  have hl := prices_loop cs hc10 hcb q hq S H w11 n hn (n - 1) 1 (Nat.le_refl _) (by omega)
  have hl : exF LP law12_PostCheap.L0 [(2, .int .u8 (q : Int)), (4, .ptr 1 0 10), (7, S), (8, H), (9, .sl 2 0 1 1 1 1 1), (10, .sl 3 0 1 1 1 1 1), (32, .int .i64 (n : Int)), (33, .int .i64 1)] (QP w11 (bys cs) (prL 1 cs) (eqL 1 q) true true) = _ := hl
  have hw : IntKind.i64.wrap ((0 : Int) + 1) = 1 := rfl
  generalize QP w11 (bys cs) (prL 1 cs) (eqL 1 q) true true = M2 at *
  generalize ([⟨w11, true⟩, ⟨bys cs, true⟩] : LMem) = M0 at *
  rw [law12_PostCheap.L0_eq]
  simp only [law12_PostCheap.B0, beqT, beqF, exF_seq, exF_region, exF_block, exF_cond, exF_ret, exF_exit, exF_skip, runL, wantL, stepL, evL, evC, LEnv.at, putL, loadFine, loadL, cellsAt, Trk.putNew, Trk.up, Trk.touch, Trk.gives, Trk.calm, Trk.hit, opdsOf, Trk.fresh, LEnv.keep, LEnv.ofFrom, List.map_cons, List.map_nil, nbeq, nble, nblt, ofAV, ofAVs, lenL, bin_add, bin_sub, bin_mul, bin_eql, bin_neq, bin_lss, bin_leq, bin_gtr, bin_geq, natL_nat, natL_zero, natL_one, natL_two, Nat.zero_mul, List.any_cons, List.any_nil, Bool.or_false, Bool.false_or, Bool.true_or, Bool.or_true, Bool.and_true, Bool.true_and, Bool.and_false, Bool.false_and, Bool.not_true, Bool.not_false, Nat.reduceBEq, Nat.reduceEqDiff, decide_true, decide_false, cond_true, cond_false, List.filter_nil, List.filter_cons, Nat.reduceAdd, Nat.reduceLeDiff, reduceCtorEq, List.length_nil, List.length_cons, Nat.mul_one, if_true, if_false, Bool.false_eq_true, eq_self, and_true, true_and, retL, resultsL, resAllL, resOfL, List.append_nil, List.nil_append, List.cons_append, true_or, or_true, false_or, or_false, false_and, and_false, not_true_eq_false, not_false_eq_true, ne_eq, unL, trim_nil, views_pures, LV.pures, LV.pure, freeze, Nat.reduceDiv, Int.reduceEq, Int.reduceLT, Int.reduceLE, Int.natCast_zero, LV.cells, allocL, List.getElem?_cons_zero, List.getElem?_cons_succ, storeL, spliceL, List.take_zero, List.take_succ_cons, List.drop_zero, List.drop_succ_cons, List.drop_nil, List.take_nil, Nat.le_refl, Nat.reduceMul, List.set_cons_zero, List.set_cons_succ, LV.scalar, List.all_cons, List.all_nil, Nat.lt_add_one, Nat.zero_lt_one, Nat.reduceLT, Nat.lt_irrefl, fillL, List.length_append, foldIntL, kind_beq, pures_int, solids_int, plains_int, unders_int, scalars_int, show ((0 : Int) < (n : Int)) by omega, hs, hw, hl]
end Go.Am.Post

/-
  What functions of chapter 12 compute, outright 4: the law 'PostMore'.
-/
set_option linter.unusedVariables false
set_option linter.unusedSimpArgs false
set_option maxRecDepth 10000
set_option maxHeartbeats 2000000
namespace Go.Am.Post
open Go.Am.G

theorem call_sh {C : LProg} {f : Nat} {lf : LFunc} (hC : C f = some lf) (hm : lf.mode = .P) {args vs : List LV} {ids : List Nat} {m : LMem} (hv : views m args = some (vs, ids)) (hp : LV.pures vs = true) {v : LV} (hc : clF C f vs [] = some (.P, v, [])) : clF C f args m = some (.P, v, m) ∨ clF C f args m = some (.P, v, freeze ids m) := by
  rw [clF_eq, hC] at hc ⊢
  simp only [callMode, hm, views_pures [] vs hp, hv] at hc ⊢
  split at hc
  · rename_i v1 m1 hr
    split at hc
    · rename_i v2 ids1 hv2
      simp only [Option.some.injEq, Prod.mk.injEq] at hc
      obtain ⟨_, rfl, _⟩ := hc
      cases (ids.isEmpty || (v2.plain || newIds v1 m1 ids1))
      · exact .inr rfl
      · exact .inl rfl
    · cases hc
  · cases hc
theorem view_at {m : LMem} {b n : Nat} {l : List Int} {o : Bool} (hn : l.length = n) (h : m[b]? = some ⟨ints l, o⟩) : ∀ k, view (k + 3) m (.sl b 0 n n 1 1 n) = some (IL false false 1 l, [b]) := fun k => by
  have := view_sl k m b 0 n n 1 l o h hn (by omega) n (Nat.le_refl _)
  rw [List.drop_zero, List.take_of_length_le (by omega)] at this
  rw [this]
  simp [nbeq]
end Go.Am.Post


