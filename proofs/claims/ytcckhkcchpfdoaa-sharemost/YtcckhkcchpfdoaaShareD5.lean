import Derived.Test.YtcckhkcchpfdoaaShareD4
/-
  What functions of chapter 07 compute, outright 5: the law 'ShareJudged'.
-/
set_option linter.unusedVariables false
set_option linter.unusedSimpArgs false
set_option maxRecDepth 10000
set_option maxHeartbeats 400000
namespace Go.Am.Share
open Go.Am.G

theorem rsM_ok (w : List Nat) (M n r : Nat) (hM : M ≤ 20) (hn : n ≤ 6) (h1 : 1 ≤ r) (h4 : r ≤ 4) (o : List Int) (hol : o.length = n) (ho : ∀ x ∈ o, -1 ≤ x ∧ x < (r : Int)) : LOk (rsM w M n r) o where
  pos := by rw [rsM_len]; omega
  le4 := by rw [rsM_len]; omega
  len i h := by rw [rsM_at, rowR]; show o.length = (rowL _ M n).length; rw [rowL_len, hol]
  ok i h := by rw [rsM_at]; exact rowL_20 _ _ _ hM
  le6 := by omega
  own x hx := by rw [rsM_len]; exact ho x hx
theorem chkM (w : List Nat) (M n r : Nat) (hM : M ≤ 20) (hn : n ≤ 6) (h1 : 1 ≤ r) (h4 : r ≤ 4) : chkV (rowsM w M n r) = 0 := by
  have hl := rowsM_len w M n r
  have h0 : ((rowsM w M n r).getD 0 []).length = n := by
    have e : (rowsM w M n r).getD 0 [] = rowL (cut6 w 0) M n := by
      rw [List.getD_eq_getElem?_getD, List.getElem?_eq_getElem (by omega)]
      simp [rowsM]
    rw [e, rowL_len]
  unfold chkV
  rw [if_neg (by omega), if_neg (by rw [h0]; omega), h0]
  have key : ∀ vs : List (List Int), (∀ v ∈ vs, v.length = n ∧ Ok20 v) → rowsChk n vs = 0 := by
    intro vs
    induction vs with
    | nil => intro _; rfl
    | cons v vs ih =>
      intro h
      obtain ⟨a, b⟩ := h v (by simp)
      rw [rowsChk, if_neg (by omega), if_neg, ih fun x hx => h x (by simp [hx])]
      rw [Bool.not_eq_true, List.any_eq_false]
      intro x hx
      have := b x hx
      simp [inB]; omega
  refine key _ fun v hv => ?_
  obtain ⟨i, _, rfl⟩ := List.mem_map.1 hv
  exact ⟨rowL_len _ _ _, rowL_20 _ _ _ hM⟩
theorem divM (w : List Nat) (M n r : Nat) (hM : M ≤ 20) (hn : n ≤ 6) (h1 : 1 ≤ r) (h4 : r ≤ 4) (o : List Int) (hol : o.length = n) (ho : ∀ x ∈ o, 0 ≤ x ∧ x < (r : Int)) : divE (rowsM w M n r) o = 0 := by
  have hl := rowsM_len w M n r
  have h0 : ((rowsM w M n r).getD 0 []).length = n := by
    have e : (rowsM w M n r).getD 0 [] = rowL (cut6 w 0) M n := by
      rw [List.getD_eq_getElem?_getD, List.getElem?_eq_getElem (by omega)]
      simp [rowsM]
    rw [e, rowL_len]
  unfold divE
  rw [chkM w M n r hM hn h1 h4, if_neg (by simp), if_neg (by omega), if_neg]
  rw [Bool.not_eq_true, List.any_eq_false]
  intro x hx
  have := ho x hx
  rw [hl]
  simp [inB]; omega
theorem in_lok {rs : List Row} {o : List Int} (D : LOk rs o) {b : Bool} {z : Nat} (h1 : o = [] ∨ z = 1) (h2 : b = true → o = []) : In rs b z o where
  hl := by have := D.le4; omega
  hr r hr := by
    obtain ⟨i, hi, e⟩ := List.getElem_of_mem hr
    have := D.len i hi
    have := D.le6
    rw [← e]; omega
  ho := by have := D.le6; omega
  hsz := h1
  hnl := h2

/-! ### Two lists in memory -/
theorem Hold.lt {m : LMem} {v : LV} {l : List Int} (H : Hold m v l) (i : Nat) (h : isBlk v i) : i < m.length := by
  rcases H with ⟨_, h2⟩ | ⟨_, b, o, h2, h3⟩
  · rw [h2] at h; cases h
  · rw [h2] at h; cases h; exact (List.getElem?_eq_some_iff.1 h3).1
section
variable (b0 c0 : Bool) (z0 : Nat) {rs : List Row} {o : List Int} (D : LOk rs o) (hd : divE (vals rs) o = 0)
include D hd
end
end Go.Am.Share

/-
  What functions of chapter 07 compute, outright 8: the law 'ShareFree': one division.
-/
set_option linter.unusedVariables false
set_option linter.unusedSimpArgs false
set_option maxRecDepth 10000
set_option maxHeartbeats 400000
namespace Go.Am.Share
open Go.Am.G

/-! ### The loops of one division -/
section
variable {rs : List Row} {o : List Int} (D : LOk rs o)
include D
end
end Go.Am.Share


