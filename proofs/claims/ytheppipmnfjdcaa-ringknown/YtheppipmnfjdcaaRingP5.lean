import Derived.Test.YtheppipmnfjdcaaRingC16
import Derived.Test.YtheppipmnfjdcaaRingC18
/-
  Forms and finds, in plain: there is a ring just if each order contradicts a find.
-/
set_option linter.unusedVariables false
set_option linter.unusedSimpArgs false
namespace Go.Am.Ring

def Chain (P : List (Nat × Nat)) : List Nat → Prop
  | [] => True
  | [_] => True
  | a :: b :: r => en P a = st P b ∧ Chain P (b :: r)
structure Cyc (P : List (Nat × Nat)) (b : List Nat) : Prop where
  ne : b ≠ []
  lt : ∀ k ∈ b, k < P.length
  nd : (b.map (st P)).Nodup
  ch : Chain P b
  cl : en P (b.getLastD 0) = st P (b.headD 0)
end Go.Am.Ring

/-
  Forms and finds, in plain: no ring just if some order contradicts nothing.
-/
set_option linter.unusedVariables false
set_option linter.unusedSimpArgs false
namespace Go.Am.Ring

abbrev FW (n : Nat) (P : List (Nat × Nat)) : Nat := (fwD anyM P n 0).1
end Go.Am.Ring

/-
  Forms and finds, in plain: striking one by one gives the first of the smallest lists.
-/
set_option linter.unusedVariables false
set_option linter.unusedSimpArgs false
namespace Go.Am.Ring

theorem wo_nil : ∀ (l : List (Nat × Nat)) (k : Nat), woF [] k l = l
  | [], k => rfl
  | p :: r, k => by rw [woF, wo_nil r (k + 1)]; simp
abbrev wS (P : List (Nat × Nat)) (S : List Nat) : List (Nat × Nat) := woF S 0 P
abbrev FS (n : Nat) (P : List (Nat × Nat)) (S : List Nat) : Nat := FW n (wS P S)
/-- One by one, each if that helps. -/
def strG (n : Nat) (P : List (Nat × Nat)) : Nat → Nat → List Nat → List Nat
  | 0, _, b => b
  | k + 1, i, b => if FS n P (b ++ [i]) < FS n P b then strG n P k (i + 1) (b ++ [i]) else strG n P k (i + 1) b
/-- The list that both return. -/
abbrev strL (n : Nat) (P : List (Nat × Nat)) : List Nat := strG n P P.length 0 []
end Go.Am.Ring

/-
  What functions of chapter 04 compute, 19: a find is taken out of a list.
-/
set_option linter.unusedVariables false
set_option linter.unusedSimpArgs false
set_option maxRecDepth 10000
namespace Go.Am.Ring
open Go.Am.G

theorem app_del2 (m : LMem) (i na nb n L : Nat) (A X B : List LV) (hA : A.length = na * 2) (hX : X.length = 2) (hB : B.length = nb * 2) (hn : n = na + 1 + nb) (hL : L = n * 2) (hs : n < 1000) (hsB : B.all LV.scalar = true) (c' : Nat) (h : m[i]? = some ⟨A ++ X ++ B, true⟩) :
    ∃ C, appendL m 2 16 (.sl i 0 na n 2 2 L) (.sl i ((na + 1) * 2) nb c' 2 2 L) = some (.sl i 0 (na + nb) n 2 2 L, m.set i ⟨C, true⟩) ∧ C.length = L ∧ C.take ((na + nb) * 2) = A ++ B := by
  have hlen : (A ++ X ++ B).length = L := by simp; omega
  have c1 : contents m 2 (.sl i 0 na n 2 2 L) = some (A, na) := by
    simp only [contents, h]
    simp only [nbeq, nble, hlen, Nat.zero_add, show na * 2 ≤ L by omega, decide_true, Bool.and_self, cond_true, List.drop_zero]
    congr 2
    rw [List.append_assoc, List.take_append_of_le_length (by omega), List.take_of_length_le (by omega)]
  have c2 : contents m 2 (.sl i ((na + 1) * 2) nb c' 2 2 L) = some (B, nb) := by
    simp only [contents, h]
    simp only [nbeq, nble, hlen, show (na + 1) * 2 + nb * 2 ≤ L by omega, decide_true, Bool.and_self, cond_true]
    congr 2
    have : (A ++ X).length = (na + 1) * 2 := by simp; omega
    rw [← this, List.drop_left, List.take_of_length_le (by omega)]
  by_cases hb : nb = 0
  · have hB0 : B = [] := List.length_eq_zero_iff.1 (by omega)
    subst hB0 hb
    refine ⟨A ++ X ++ [], ?_, hlen, ?_⟩
    · have hm : m.set i ⟨A ++ X ++ [], true⟩ = m := by
        apply List.ext_getElem?
        intro j
        rw [List.getElem?_set]
        by_cases hj : i = j
        · subst hj
          have hi := (List.getElem?_eq_some_iff.1 h).1
          simp only [if_true, hi]
          exact h.symm
        · simp [hj]
      rw [hm]
      unfold appendL
      simp only [c1, c2]
      simp [nbeq, nble, show na ≤ n by omega]
    · rw [List.append_nil, List.append_nil, Nat.add_zero, List.take_append_of_le_length (by omega), List.take_of_length_le (by omega)]
  · have hroom : (Nat.ble ((na + nb) * 16) roomMost && Nat.ble (na + nb) roomMost && B.all LV.scalar) = true := by
      rw [hsB]
      simp only [roomMost, nble, Bool.and_true, Bool.and_eq_true, decide_eq_true_eq]
      omega
    refine ⟨spliceL (A ++ X ++ B) (0 + na * 2) B, ?_, ?_, ?_⟩
    · unfold appendL
      simp only [c1, c2, hroom, h]
      simp only [nbeq, hb, decide_false, cond_false, cond_true, nble, show na + nb ≤ n by omega, decide_true]
      simp [show (na + nb) * 2 ≤ L by omega]
      try omega
    · unfold spliceL
      simp only [List.length_append, List.length_take, List.length_drop]
      omega
    · unfold spliceL
      have e1 : (A ++ X ++ B).take (0 + na * 2) = A := by
        rw [List.append_assoc, List.take_append_of_le_length (by omega), List.take_of_length_le (by omega)]
      rw [e1, List.take_append_of_le_length (by simp; omega), List.take_of_length_le (by simp; omega)]
theorem delete2_c (m : LMem) (i na nb n L : Nat) (A X B : List LV) (hA : A.length = na * 2) (hX : X.length = 2) (hB : B.length = nb * 2) (hn : n = na + 1 + nb) (hL : L = n * 2) (hs : n < 1000) (hsB : B.all LV.scalar = true) (h : m[i]? = some ⟨A ++ X ++ B, true⟩) :
    clF LP n_slices_Delete_2_int_2_int [.sl i 0 n n 2 2 L, .int .i64 (na : Int), .int .i64 ((na + 1 : Nat) : Int)] m = some (.W, .sl i 0 (na + nb) n 2 2 L, m.set i ⟨A ++ B ++ [.int .i64 0, .int .i64 0], true⟩) := by
  obtain ⟨C, h1, h2, h3⟩ := app_del2 m i na nb n L A X B hA hX hB hn hL hs hsB (n - (na + 1)) h
  have hi := (List.getElem?_eq_some_iff.1 h).1
  have hcl : clrsL (m.set i ⟨C, true⟩) [.int .i64 0, .int .i64 0] (.sl i ((na + nb) * 2) 1 1 2 2 L) = some (m.set i ⟨A ++ B ++ [.int .i64 0, .int .i64 0], true⟩) := by
    simp only [clrsL, List.getElem?_set, if_true, hi, List.set_set]
    have e : (na + nb) * 2 + 1 * 2 ≤ L := by omega
    have hz : zerosL (ofAVs [.int .i64 0, .int .i64 0]) (1 * 2) = [.int .i64 0, .int .i64 0] := rfl
    have hd : C.drop ((na + nb) * 2 + 2) = [] := List.drop_eq_nil_of_le (by omega)
    simp only [nbeq, nble, h2, List.length_cons, List.length_nil, Nat.zero_add, Nat.reduceAdd, e, decide_true, List.all_cons, List.all_nil, AV.scalar, Bool.and_self, cond_true, spliceL, h3, hz, hd, List.append_nil]
  have ht : trim m.length [.sl i 0 (na + nb) n 2 2 L] (m.set i ⟨A ++ B ++ [.int .i64 0, .int .i64 0], true⟩) = m.set i ⟨A ++ B ++ [.int .i64 0, .int .i64 0], true⟩ := trim_le _ _ _ (by simp)
  conv => rhs; rw [← ht]
  refine call_W lp_slices_Delete_2_int_2_int rfl ?_
  have e1 : ¬ (na : Int) = ((na + 1 : Nat) : Int) := by omega
  have hb1 : n - (na + 1) = nb := by omega
  rw [hb1] at h1
  simp only [slices_Delete_2_int_2_int, slices_Delete_2_int_2_int.B, exF_seq, exF_region, exF_cond, exF_ret, exF_skip, runL, wantL, stepL, evL, evC, LEnv.at, putL, loadFine, LEnv.keep, LEnv.ofFrom, List.map_cons, List.map_nil, nbeq, nble, lenL, bin_eql, natL_nat, Nat.zero_mul, Bool.or_true, Bool.and_true, Bool.true_and, Nat.reduceEqDiff, decide_true, decide_false, cond_true, cond_false, Nat.reduceAdd, reduceCtorEq, eq_self, retL, resultsL, resAllL, resOfL, Nat.le_refl, sliceL, optNatL, Option.map_some, Option.map_none, Option.isSome_some, Option.isSome_none, Bool.or_true, show na + 1 ≤ n by omega, show na ≤ na + 1 by omega, e1, show na ≤ n by omega, hb1, Nat.zero_le, Nat.sub_zero, Nat.zero_add, natL_nat, h1]
  simp only [LEnv.at, nbeq, decide_true, decide_false, cond_true, cond_false, reduceCtorEq, eq_self, show na + nb ≤ n by omega, show n - (na + nb) = 1 by omega, hcl]
end Go.Am.Ring

/-
  Forms and finds, in plain: where a find is among those that are left.
-/
set_option linter.unusedVariables false
set_option linter.unusedSimpArgs false
namespace Go.Am.Ring

theorem wo_app (S : List Nat) : ∀ (a b : List (Nat × Nat)) (k : Nat), woF S k (a ++ b) = woF S k a ++ woF S (k + a.length) b
  | [], b, k => by simp [woF]
  | p :: a, b, k => by
    rw [List.cons_append, woF, woF, wo_app S a b (k + 1), List.length_cons, show k + 1 + a.length = k + (a.length + 1) by omega]
    split <;> rfl
theorem wo_high (S : List Nat) : ∀ (l : List (Nat × Nat)) (k : Nat), (∀ x ∈ S, x < k) → woF S k l = l
  | [], k, _ => rfl
  | p :: r, k, h => by
    rw [woF, if_neg (fun c => by have := h k c; omega), wo_high S r (k + 1) fun x hx => by have := h x hx; omega]
theorem wo_low (S : List Nat) (j : Nat) : ∀ (l : List (Nat × Nat)) (k : Nat), k + l.length ≤ j → woF (S ++ [j]) k l = woF S k l
  | [], k, _ => rfl
  | p :: r, k, h => by
    simp at h
    rw [woF, woF, wo_low S j r (k + 1) (by omega)]
    have : (k ∈ S ++ [j]) ↔ k ∈ S := by simp; omega
    simp only [this]
theorem count_one : ∀ (S : List Nat) (k : Nat), S.Nodup → k ∈ S → S.count k = 1
  | [], k, _, h => by simp at h
  | a :: S, k, hn, h => by
    have hn := List.nodup_cons.1 hn
    rw [List.count_cons]
    by_cases c : a = k
    · subst c
      rw [List.count_eq_zero.2 hn.1]; simp
    · rcases List.mem_cons.1 h with h | h
      · exact absurd h.symm c
      · rw [count_one S k hn.2 h]; simp [c]
theorem wo_count (S : List Nat) (hS : S.Nodup) : ∀ (l : List (Nat × Nat)) (k : Nat), (woF S k l).length + S.countP (fun x => decide (k ≤ x ∧ x < k + l.length)) = l.length
  | [], k => by
    have : S.countP (fun x => decide (k ≤ x ∧ x < k + ([] : List (Nat × Nat)).length)) = 0 := by
      rw [List.countP_eq_zero]
      intro x _
      simp
    rw [this]; rfl
  | p :: r, k => by
    have ih := wo_count S hS r (k + 1)
    have e : S.countP (fun x => decide (k ≤ x ∧ x < k + (p :: r).length)) = S.count k + S.countP (fun x => decide (k + 1 ≤ x ∧ x < k + 1 + r.length)) := by
      clear ih hS
      induction S with
      | nil => rfl
      | cons a S ih =>
        rw [List.countP_cons, List.countP_cons, List.count_cons, ih]
        by_cases c : a = k
        · subst c
          have e3 : decide (a ≤ a ∧ a < a + (p :: r).length) = true := by simp
          have e4 : decide (a + 1 ≤ a ∧ a < a + 1 + r.length) = false := by rw [decide_eq_false_iff_not]; omega
          rw [e3, e4]
          simp only [beq_self_eq_true, if_true, Bool.false_eq_true, if_false]
          omega
        · have e1 : (a == k) = false := by simpa using c
          have e2 : (k ≤ a ∧ a < k + (p :: r).length) ↔ (k + 1 ≤ a ∧ a < k + 1 + r.length) := by simp; omega
          simp only [e1, e2]
          simp
          omega
    rw [e, woF]
    by_cases c : k ∈ S
    · rw [if_pos c, count_one S k hS c, List.length_cons]; omega
    · rw [if_neg c, List.count_eq_zero.2 c, List.length_cons, List.length_cons]; omega
/-- Those left, split at a find that is behind all that are struck. -/
theorem wo_split (P : List (Nat × Nat)) (S : List Nat) (hS : S.Nodup) (j : Nat) (hj : j < P.length) (h : ∀ x ∈ S, x < j) : ∃ A B, woF S 0 P = A ++ P[j] :: B ∧ woF (S ++ [j]) 0 P = A ++ B ∧ A.length + S.length = j := by
  have e : P = P.take j ++ P[j] :: P.drop (j + 1) := by rw [List.getElem_cons_drop, List.take_append_drop]
  have hl : (P.take j).length = j := by simp; omega
  refine ⟨woF S 0 (P.take j), P.drop (j + 1), ?_, ?_, ?_⟩
  · conv => lhs; rw [e]
    rw [wo_app, hl, Nat.zero_add, wo_high S _ j h]
  · conv => lhs; rw [e]
    rw [wo_app, hl, Nat.zero_add, wo_low S j (P.take j) 0 (by omega), woF, if_pos (by simp), wo_high (S ++ [j]) _ (j + 1) (by
      intro x hx
      rcases List.mem_append.1 hx with hx | hx
      · have := h x hx; omega
      · rw [List.mem_singleton.1 hx]; omega)]
  · have := wo_count S hS (P.take j) 0
    have e2 : S.countP (fun x => decide (0 ≤ x ∧ x < 0 + (P.take j).length)) = S.length := by
      rw [List.countP_eq_length]
      intro x hx
      have := h x hx
      rw [hl]
      simpa using this
    rw [e2, hl] at this
    exact this
end Go.Am.Ring


