import Derived.Test.YtheppipmnfjdcaaDoorRdC15
import Derived.Test.YtheppipmnfjdcaaDoorRdC11
import Derived.Test.YtheppipmnfjdcaaDoorRdD1
/-
  Forms and finds, in plain: other numbers of the forms, and the finds in another order.
-/
set_option linter.unusedVariables false
set_option linter.unusedSimpArgs false
namespace Go.Am.Ring

/-! ### Orders -/
theorem ords_in (n : Nat) : ∀ (u done : Nat) (o : List Nat), o.Nodup → o.length = u → (∀ x ∈ o, x < n ∧ done.testBit x = false) → o ∈ compsU anyM n u done
  | 0, done, o, _, h, _ => by rw [List.length_eq_zero_iff.1 h]; simp [compsU]
  | u + 1, done, [], _, h, _ => by simp at h
  | u + 1, done, f :: r, hnd, h, hx => by
    rw [List.nodup_cons] at hnd
    rw [compsU, List.mem_flatMap]
    have hf := hx f (by simp)
    refine ⟨f, List.mem_range.2 hf.1, ?_⟩
    rw [if_neg (by simp [hf.2, anyM]), List.mem_map]
    refine ⟨r, ords_in n u _ r hnd.2 (by simpa using h) fun x hxr => ⟨(hx x (by simp [hxr])).1, ?_⟩, rfl⟩
    have : ¬ f = x := fun e => hnd.1 (e ▸ hxr)
    rw [or_bit, (hx x (by simp [hxr])).2]
    simp [this]
theorem ords_iff {n : Nat} {o : List Nat} : o ∈ ords n ↔ o.Nodup ∧ o.length = n ∧ ∀ x ∈ o, x < n :=
  ⟨fun h => ⟨(ords_ok h).1, (ords_ok h).2.1, (ords_ok h).2.2.1⟩, fun h => ords_in n n 0 o h.1 h.2.1 fun x hx => ⟨h.2.2 x hx, by simp⟩⟩
/-- A change of numbers and back. -/
structure Rel (n : Nat) (σ τ : Nat → Nat) : Prop where
  lt : ∀ x, x < n → σ x < n
  lt' : ∀ x, x < n → τ x < n
  l : ∀ x, x < n → τ (σ x) = x
  r : ∀ x, x < n → σ (τ x) = x
theorem Rel.symm {n : Nat} {σ τ : Nat → Nat} (h : Rel n σ τ) : Rel n τ σ := ⟨h.lt', h.lt, h.r, h.l⟩
theorem Rel.inj {n : Nat} {σ τ : Nat → Nat} (h : Rel n σ τ) {x y : Nat} (hx : x < n) (hy : y < n) (e : σ x = σ y) : x = y := by
  have := congrArg τ e
  rwa [h.l x hx, h.l y hy] at this
abbrev pmap (σ : Nat → Nat) (P : List (Nat × Nat)) : List (Nat × Nat) := P.map fun p => (σ p.1, σ p.2)
section
variable {n : Nat} {σ τ : Nat → Nat} (R : Rel n σ τ) {P Q : List (Nat × Nat)} (G : Good n P) (GQ : Good n Q) (hQ : Q.Perm (pmap σ P))
include R G GQ hQ
end
/-- Finds go to finds. -/
structure RelF (P Q : List (Nat × Nat)) (σ ρ : Nat → Nat) : Prop where
  lt : ∀ k, k < P.length → ρ k < Q.length
  st' : ∀ k, k < P.length → st Q (ρ k) = σ (st P k)
  en' : ∀ k, k < P.length → en Q (ρ k) = σ (en P k)
  inj : ∀ k, k < P.length → ∀ l, l < P.length → ρ k = ρ l → k = l
end Go.Am.Ring

/-
  What functions of chapter 04 compute, outright 6: an order by numbers, and finds turned, with other numbers.
-/
set_option linter.unusedVariables false
set_option linter.unusedSimpArgs false
set_option maxRecDepth 10000
namespace Go.Am.Ring
open Go.Am.G

/-! ### A thing is taken out of a list -/
theorem app_del (m : LMem) (i : Nat) (a b : List Int) (x : Int) (Z : List LV) (c c' : Nat) (L : Nat) (h : m[i]? = some ⟨ints (a ++ x :: b) ++ Z, true⟩) (hL : a.length + 1 + b.length + Z.length = L) (hc : a.length + b.length ≤ c) (hs : L < 1000000) :
    ∃ C, appendL m 1 8 (.sl i 0 a.length c 1 1 L) (.sl i (a.length + 1) b.length c' 1 1 L) = some (.sl i 0 (a.length + b.length) c 1 1 L, m.set i ⟨C, true⟩) ∧ C.length = L ∧ C.take (a.length + b.length) = ints (a ++ b) ∧ C.drop (a.length + b.length + 1) = Z := by
  have hlen : (ints (a ++ x :: b) ++ Z).length = L := by simp; omega
  have c1 : contents m 1 (.sl i 0 a.length c 1 1 L) = some (ints a, a.length) := by
    simp only [contents, h]
    simp only [nbeq, nble, hlen, Nat.mul_one, Nat.zero_add, show a.length ≤ L by omega, decide_true, Bool.and_self, cond_true, List.drop_zero]
    congr 2
    rw [List.take_append_of_le_length (by simp), ← List.map_take]
    simp
  have c2 : contents m 1 (.sl i (a.length + 1) b.length c' 1 1 L) = some (ints b, b.length) := by
    simp only [contents, h]
    simp only [nbeq, nble, hlen, Nat.mul_one, show a.length + 1 + b.length ≤ L by omega, decide_true, Bool.and_self, cond_true]
    congr 2
    rw [List.drop_append_of_le_length (by simp), ← List.map_drop]
    have : (a ++ x :: b).drop (a.length + 1) = b := by
      rw [← List.drop_drop, List.drop_left]; rfl
    rw [this, List.take_append_of_le_length (by simp), List.take_of_length_le (by simp)]
  by_cases hb : b.length = 0
  · have hb' : b = [] := List.length_eq_zero_iff.1 hb
    subst hb'
    have hdz : (ints (a ++ [x]) ++ Z).drop (ints (a ++ [x])).length = Z := List.drop_left
    refine ⟨ints (a ++ [x]) ++ Z, ?_, by simpa using hlen, by simp, by simpa using hdz⟩
    have hm : m.set i ⟨ints (a ++ [x]) ++ Z, true⟩ = m := by
      apply List.ext_getElem?
      intro j
      rw [List.getElem?_set]
      by_cases hj : i = j
      · subst hj
        have hi := (List.getElem?_eq_some_iff.1 h).1
        simp only [if_true, hi]
        exact h.symm
      · simp [hj]
    rw [hm]
    unfold appendL
    simp only [c1, c2]
    have hc2 : a.length ≤ c := by simpa using hc
    simp [nbeq, nble, hc2]
  · have hroom : (Nat.ble ((a.length + b.length) * 8) roomMost && Nat.ble (a.length + b.length) roomMost && (ints b).all LV.scalar) = true := by
      rw [scalars_int]
      simp only [roomMost, nble, Bool.and_true, Bool.and_eq_true, decide_eq_true_eq]
      omega
    have hsp : spliceL (ints (a ++ x :: b) ++ Z) (0 + a.length * 1) (ints b) = ints a ++ ints b ++ (ints (a ++ x :: b) ++ Z).drop (a.length + b.length) := by
      unfold spliceL
      rw [Nat.mul_one, Nat.zero_add]
      congr 1
      · rw [List.take_append_of_le_length (by simp), ← List.map_take]; simp
      · congr 1; simp
    refine ⟨ints a ++ ints b ++ (ints (a ++ x :: b) ++ Z).drop (a.length + b.length), ?_, ?_, ?_, ?_⟩
    · unfold appendL
      simp only [c1, c2, hroom, h]
      simp only [nbeq, hb, decide_false, cond_false, cond_true, nble, hc, decide_true]
      rw [hsp]
      simp [show a.length + b.length ≤ L by omega]
    · simp only [List.length_append, List.length_drop, List.length_map, List.length_cons]; omega
    · rw [List.take_append_of_le_length (by simp), List.take_of_length_le (by simp)]
      simp
    · rw [List.drop_append, List.drop_eq_nil_of_le (by simp), List.nil_append, List.drop_drop]
      simp only [List.length_append, List.length_map]
      rw [show a.length + b.length + (a.length + b.length + 1 - (a.length + b.length)) = (ints (a ++ x :: b)).length + 0 by simp; omega, List.drop_append]
      simp
theorem delete_c (m : LMem) (i : Nat) (a b : List Int) (x : Int) (Z : List LV) (c : Nat) (L : Nat) (h : m[i]? = some ⟨ints (a ++ x :: b) ++ Z, true⟩) (hL : a.length + 1 + b.length + Z.length = L) (hc : a.length + 1 + b.length ≤ c) (hs : L < 1000000) :
    clF LP n_slices_Delete_int_int [.sl i 0 (a.length + 1 + b.length) c 1 1 L, .int .i64 ((a.length : Nat) : Int), .int .i64 ((a.length + 1 : Nat) : Int)] m = some (.W, .sl i 0 (a.length + b.length) c 1 1 L, m.set i ⟨ints (a ++ b) ++ .int .i64 0 :: Z, true⟩) := by
  obtain ⟨C, h1, h2, h3, h4⟩ := app_del m i a b x Z c (c - (a.length + 1)) L h hL (by omega) hs
  have hi := (List.getElem?_eq_some_iff.1 h).1
  have hb1 : a.length + 1 + b.length - (a.length + 1) = b.length := by omega
  have hcl : clrL (m.set i ⟨C, true⟩) (.int .i64 0) (.sl i (a.length + b.length) 1 (c - (a.length + b.length)) 1 1 L) = some (m.set i ⟨ints (a ++ b) ++ .int .i64 0 :: Z, true⟩) := by
    simp only [clrL, List.getElem?_set, if_true, hi, List.set_set]
    simp only [nbeq, nble, h2, show a.length + b.length + 1 ≤ L by omega, decide_true, AV.scalar, Bool.and_self, cond_true, spliceL, h3]
    simp only [List.replicate, List.length_cons, List.length_nil, h4, ofAV]
    simp
  have ht : trim m.length [.sl i 0 (a.length + b.length) c 1 1 L] (m.set i ⟨ints (a ++ b) ++ .int .i64 0 :: Z, true⟩) = m.set i ⟨ints (a ++ b) ++ .int .i64 0 :: Z, true⟩ := trim_le _ _ _ (by simp)
  conv => rhs; rw [← ht]
  refine call_W lp_slices_Delete_int_int rfl ?_
  have e1 : ¬ (a.length : Int) = ((a.length + 1 : Nat) : Int) := by omega
  simp only [slices_Delete_int_int, slices_Delete_int_int.B, beqT, beqF, exF_seq, exF_region, exF_block, exF_cond, exF_ret, exF_exit, exF_skip, runL, wantL, stepL, evL, evC, LEnv.at, putL, loadFine, loadL, cellsAt, Trk.putNew, Trk.up, Trk.touch, Trk.gives, Trk.calm, Trk.hit, opdsOf, Trk.fresh, LEnv.keep, LEnv.ofFrom, List.map_cons, List.map_nil, nbeq, nble, nblt, ofAV, ofAVs, lenL, bin_add, bin_sub, bin_mul, bin_eql, bin_neq, bin_lss, bin_leq, bin_gtr, bin_geq, natL_nat, natL_zero, natL_one, natL_two, Nat.zero_mul, List.any_cons, List.any_nil, Bool.or_false, Bool.false_or, Bool.true_or, Bool.or_true, Bool.and_true, Bool.true_and, Bool.and_false, Bool.false_and, Bool.not_true, Bool.not_false, Nat.reduceBEq, Nat.reduceEqDiff, decide_true, decide_false, cond_true, cond_false, List.filter_nil, List.filter_cons, Nat.reduceAdd, Nat.reduceLeDiff, reduceCtorEq, List.length_nil, List.length_cons, Nat.mul_one, if_true, if_false, Bool.false_eq_true, eq_self, and_true, true_and, retL, resultsL, resAllL, resOfL, List.append_nil, List.nil_append, List.cons_append, true_or, or_true, false_or, or_false, false_and, and_false, not_true_eq_false, not_false_eq_true, ne_eq, unL, trim_nil, views_pures, LV.pures, LV.pure, freeze, Nat.reduceDiv, Int.reduceEq, Int.reduceLT, Int.reduceLE, Int.natCast_zero, LV.cells, allocL, List.getElem?_cons_zero, List.getElem?_cons_succ, storeL, spliceL, List.take_zero, List.take_succ_cons, List.drop_zero, List.drop_succ_cons, List.drop_nil, List.take_nil, Nat.le_refl, Nat.reduceMul, List.set_cons_zero, List.set_cons_succ, LV.scalar, List.all_cons, List.all_nil, Nat.lt_add_one, Nat.zero_lt_one, Nat.reduceLT, Nat.lt_irrefl, fillL, List.length_append, foldIntL, kind_beq, pures_int, solids_int, plains_int, unders_int, scalars_int, sliceL, optNatL, Option.map_some, Option.map_none, Option.isSome_some, Option.isSome_none, Bool.or_true, show a.length + 1 + b.length ≤ c by omega, show a.length + 1 ≤ a.length + 1 + b.length by omega, show a.length ≤ a.length + 1 by omega, e1, show a.length ≤ a.length + 1 + b.length by omega, hb1, show a.length ≤ c by omega, Nat.zero_le, Nat.zero_add, Nat.sub_zero, h1]
  simp only [beqT, beqF, exF_seq, exF_region, exF_block, exF_cond, exF_ret, exF_exit, exF_skip, runL, wantL, stepL, evL, evC, LEnv.at, putL, loadFine, loadL, cellsAt, Trk.putNew, Trk.up, Trk.touch, Trk.gives, Trk.calm, Trk.hit, opdsOf, Trk.fresh, LEnv.keep, LEnv.ofFrom, List.map_cons, List.map_nil, nbeq, nble, nblt, ofAV, ofAVs, lenL, bin_add, bin_sub, bin_mul, bin_eql, bin_neq, bin_lss, bin_leq, bin_gtr, bin_geq, natL_nat, natL_zero, natL_one, natL_two, Nat.zero_mul, List.any_cons, List.any_nil, Bool.or_false, Bool.false_or, Bool.true_or, Bool.or_true, Bool.and_true, Bool.true_and, Bool.and_false, Bool.false_and, Bool.not_true, Bool.not_false, Nat.reduceBEq, Nat.reduceEqDiff, decide_true, decide_false, cond_true, cond_false, List.filter_nil, List.filter_cons, Nat.reduceAdd, Nat.reduceLeDiff, reduceCtorEq, List.length_nil, List.length_cons, Nat.mul_one, if_true, if_false, Bool.false_eq_true, eq_self, and_true, true_and, retL, resultsL, resAllL, resOfL, List.append_nil, List.nil_append, List.cons_append, true_or, or_true, false_or, or_false, false_and, and_false, not_true_eq_false, not_false_eq_true, ne_eq, unL, trim_nil, views_pures, LV.pures, LV.pure, freeze, Nat.reduceDiv, Int.reduceEq, Int.reduceLT, Int.reduceLE, Int.natCast_zero, LV.cells, allocL, List.getElem?_cons_zero, List.getElem?_cons_succ, storeL, spliceL, List.take_zero, List.take_succ_cons, List.drop_zero, List.drop_succ_cons, List.drop_nil, List.take_nil, Nat.le_refl, Nat.reduceMul, List.set_cons_zero, List.set_cons_succ, LV.scalar, List.all_cons, List.all_nil, Nat.lt_add_one, Nat.zero_lt_one, Nat.reduceLT, Nat.lt_irrefl, fillL, List.length_append, foldIntL, kind_beq, pures_int, solids_int, plains_int, unders_int, scalars_int, sliceL, optNatL, Option.map_some, Option.map_none, Option.isSome_none, natL_nat, Nat.zero_add, show a.length + 1 + b.length ≤ c by omega, show a.length + b.length ≤ a.length + 1 + b.length by omega, show a.length + 1 + b.length - (a.length + b.length) = 1 by omega, hcl]

/-! ### An order by numbers -/
def drw (bs : List Nat) : Nat → Nat → List Nat → List Nat → List Nat
  | 0, _, _, out => out
  | d + 1, i, left, out => drw bs d (i + 1) (left.eraseIdx (bs.getD i 0 % left.length)) (out ++ [left.getD (bs.getD i 0 % left.length) 0])
abbrev drawn (n : Nat) (bs : List Nat) : List Nat := drw bs n 0 (List.range n) []
theorem erase_perm : ∀ (l : List Nat) (k : Nat), k < l.length → (l.getD k 0 :: l.eraseIdx k).Perm l
  | [], k, h => by simp at h
  | a :: l, 0, _ => List.Perm.refl _
  | a :: l, k + 1, h => by
    have ih := erase_perm l k (by simpa using h)
    show (l.getD k 0 :: a :: l.eraseIdx k).Perm (a :: l)
    exact (List.Perm.swap a _ _).trans (ih.cons a)
theorem drw_perm (bs : List Nat) : ∀ (d i : Nat) (left out : List Nat), left.length = d → (drw bs d i left out).Perm (out ++ left)
  | 0, i, left, out, h => by rw [List.length_eq_zero_iff.1 h, drw, List.append_nil]
  | d + 1, i, left, out, h => by
    have hk : bs.getD i 0 % left.length < left.length := Nat.mod_lt _ (by omega)
    rw [drw]
    refine (drw_perm bs d (i + 1) _ _ (by rw [List.length_eraseIdx, if_pos hk]; omega)).trans ?_
    rw [List.append_assoc]
    exact (erase_perm left _ hk).append_left out
theorem drawn_perm (n : Nat) (bs : List Nat) : (drawn n bs).Perm (List.range n) := by
  have := drw_perm bs n 0 (List.range n) [] (by simp)
  rwa [List.nil_append] at this
theorem drawn_len (n : Nat) (bs : List Nat) : (drawn n bs).length = n := by rw [(drawn_perm n bs).length_eq, List.length_range]
theorem drawn_nodup (n : Nat) (bs : List Nat) : (drawn n bs).Nodup := (drawn_perm n bs).nodup_iff.2 List.nodup_range
theorem drawn_mem (n : Nat) (bs : List Nat) (x : Nat) : x ∈ drawn n bs ↔ x < n := by rw [(drawn_perm n bs).mem_iff, List.mem_range]
end Go.Am.Ring


