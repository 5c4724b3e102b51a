/-
  Plain: as many halves as rings say, from the longest rings down; when there is none. No statement of the seat is proved here.
-/
import Derived.Test.YtgogknjedpmcgaaWashD4
import Derived.Test.YtgogknjedpmcgaaWashD3
set_option linter.unusedVariables false
set_option linter.unusedSimpArgs false
namespace Go.Am.Wash
def prodD (R : List (List Nat)) : Nat → Nat → Option Nat
  | 0, a => some a
  | m + 1, a => cond (Nat.ble (a * matN (m + 1) (cntN R (m + 1))) 1152921504606846976) (prodD R m (a * matN (m + 1) (cntN R (m + 1)))) none
def whyN (R : List (List Nat)) : Nat := cond (Nat.beq (cntN R 2 % 2) 1) 2 (cond (Nat.beq (cntN R 4 % 2) 1) 4 (cond (Nat.beq (cntN R 6 % 2) 1) 6 0))
def chkZ (t : List Nat) : Bool := match ringsP t with
  | some R => match prodF R 8 0 1 with
    | some N => cond (eqO (prodD R 7 1) N) (cond (Nat.beq N 0) (Nat.blt 0 (whyN R)) (Nat.beq (whyN R) 0)) false
    | none => false
  | none => false
theorem z1 : allP 1 chkZ 1 [] = true := by kernel_rfl
theorem z2 : allP 2 chkZ 2 [] = true := by kernel_rfl
theorem z3 : allP 3 chkZ 3 [] = true := by kernel_rfl
theorem z4 : allP 4 chkZ 4 [] = true := by kernel_rfl
theorem z5 : allP 5 chkZ 5 [] = true := by kernel_rfl
end Go.Am.Wash


/-
  What functions of chapter 13 compute, outright 5: the law 'WashRoots'.
-/
set_option linter.unusedVariables false
set_option linter.unusedSimpArgs false
set_option maxRecDepth 10000
set_option maxHeartbeats 1000000
namespace Go.Am.Wash
open Go.Am.G

/-- A tide out of memory. -/
theorem view_tide {m : LMem} {b : Nat} {l : List Nat} {n : Nat} (hn : l.length = n) (h : m[b]? = some ⟨ints (ci l), true⟩) : ∀ k, view (k + 3) m (.sl b 0 n n 1 1 n) = some (IL false false 1 (ci l), [b]) := fun k => by
  have := view_sl k m b 0 n n 1 (ci l) true h (by rw [ci_len]; exact hn) (by omega) n (Nat.le_refl _)
  rw [List.drop_zero, List.take_of_length_le (by rw [ci_len]; omega)] at this
  rw [this]
  simp [nbeq]
abbrev RTH (w8 : List LV) (t : List Nat) (c : Nat) (F : LV) (Y : LMem) : LMem := ⟨w8, true⟩ :: ⟨[IL false false 1 (ci t)], true⟩ :: ⟨[.int .i64 (c : Int)], true⟩ :: ⟨[F], true⟩ :: Y
def FOk (n z : Nat) (s : List (List Nat)) (m : LMem) (F : LV) : Prop := match s with
  | [] => F = .lst true true 0 0 []
  | q :: _ => ∃ b, F = .sl b 0 n n 1 1 n ∧ z ≤ b ∧ m[b]? = some ⟨ints (ci q), true⟩
theorem FOk.mono {n z : Nat} {s : List (List Nat)} {m m' : LMem} {F : LV} (h : FOk n z s m F) (hm : ∀ i, z ≤ i → i < m.length → m'[i]? = m[i]?) : FOk n z s m' F := by
  cases s with
  | nil => exact h
  | cons q r =>
    obtain ⟨b, h1, h2, h3⟩ := h
    exact ⟨b, h1, h2, by rw [hm b h2 (List.getElem?_eq_some_iff.1 h3).1]; exact h3⟩
/-- What is kept through a trim. -/
theorem FOk.trim {n : Nat} {s : List (List Nat)} {w8 : List LV} {t : List Nat} {c : Nat} {F : LV} {Y : LMem} {k : Nat} (vs : List LV) (h : FOk n 7 s (RTH w8 t c F Y) F) (hk : 4 ≤ k) : ∃ Y', trim k vs (RTH w8 t c F Y) = RTH w8 t c F Y' ∧ FOk n 7 s (RTH w8 t c F Y') F ∧ (Y' = Y ∨ Y' = Y.take (k - 4)) := by
  unfold Go.Am.trim
  cases hc : (LV.unders k vs && belowM k ((RTH w8 t c F Y).take k))
  · exact ⟨Y, rfl, h, .inl rfl⟩
  · rw [cond_true]
    have e : (RTH w8 t c F Y).take k = RTH w8 t c F (Y.take (k - 4)) := by
      obtain ⟨j, rfl⟩ : ∃ j, k = j + 4 := ⟨k - 4, by omega⟩
      simp
    rw [e] at hc ⊢
    refine ⟨Y.take (k - 4), rfl, ?_, .inr rfl⟩
    cases s with
    | nil => exact h
    | cons q r =>
      obtain ⟨b, h1, h2, h3⟩ := h
      refine ⟨b, h1, h2, ?_⟩
      subst h1
      simp only [Bool.and_eq_true] at hc
      have hb := hc.2
      simp only [belowM, List.all_cons, Bool.and_eq_true, LV.unders, LV.under] at hb
      have hbk : b < k := by
        have := hb.2.2.2.1
        simpa [nblt] using this
      rw [← h3, ← e, List.getElem?_take, if_pos hbk]
end Go.Am.Wash


