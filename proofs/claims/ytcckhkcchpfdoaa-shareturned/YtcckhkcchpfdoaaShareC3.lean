import Derived.Test.YtcckhkcchpfdoaaShareC1
/-
  What functions of chapter 07 compute, 3: worths.
-/
set_option linter.unusedVariables false
set_option linter.unusedSimpArgs false
set_option maxRecDepth 10000
namespace Go.Am.Share

/-- What a share is worth, and its greatest thing. -/
def wg (of : Int) : List Int → List Int → Int × Int → Int × Int
  | r :: rs, o :: os, a => wg of rs os (if o = of then (a.1 + r, if r > a.2 then r else a.2) else a)
  | _, _, a => a
def ws (of : Int) : List Int → List Int → Int → Int
  | r :: rs, o :: os, w => ws of rs os (if o = of then w + r else w)
  | _, _, w => w
def Ok20 (l : List Int) : Prop := ∀ x ∈ l, 0 ≤ x ∧ x ≤ 20
theorem Ok20.at {l : List Int} (h : Ok20 l) (k : Nat) (hk : k < l.length) : 0 ≤ l[k] ∧ l[k] ≤ 20 := h _ (List.getElem_mem hk)
theorem ws_bound (of : Int) : ∀ (r o : List Int) (w : Int), Ok20 r → 0 ≤ w → 0 ≤ ws of r o w ∧ ws of r o w ≤ w + 20 * r.length
  | [], _, w, _, h => by simp [ws, h]
  | r :: rs, [], w, _, h => by simp [ws, h]; omega
  | r :: rs, o :: os, w, hr, h => by
    have h1 := hr r (by simp)
    have h2 := ws_bound of rs os (if o = of then w + r else w) (fun x hx => hr x (by simp [hx])) (by split <;> omega)
    rw [ws]
    simp only [List.length_cons]
    split at h2 <;> rename_i hc
    · rw [if_pos hc]; omega
    · rw [if_neg hc]; omega
theorem wg_bound (of : Int) : ∀ (r o : List Int) (a : Int × Int), Ok20 r → 0 ≤ a.2 ∧ a.2 ≤ 20 → 0 ≤ (wg of r o a).2 ∧ (wg of r o a).2 ≤ 20
  | [], _, a, _, h => by simpa [wg] using h
  | r :: rs, [], a, _, h => by simpa [wg] using h
  | r :: rs, o :: os, a, hr, h => by
    have h1 := hr r (by simp)
    rw [wg]
    refine wg_bound of rs os _ (fun x hx => hr x (by simp [hx])) ?_
    by_cases hc : o = of
    · rw [if_pos hc]; dsimp only; split <;> omega
    · rw [if_neg hc]; exact h

/-- Envy, with and without the greatest thing. -/
def own (rs : List Row) (i : Nat) (hi : i < rs.length) (o : List Int) : Int := ws i rs[i].l o 0
end Go.Am.Share

/-
  What functions of chapter 07 compute, 4: divisions are opened; envy by more than one thing.
-/
set_option linter.unusedVariables false
set_option linter.unusedSimpArgs false
set_option maxRecDepth 10000
namespace Go.Am.Share

/-- Values and a division are as the chapter asks. -/
def divE (vs : List (List Int)) (o : List Int) : Int :=
  if chkV vs ≠ 0 then chkV vs else if o.length ≠ (vs.getD 0 []).length then 5 else if o.any (fun x => !inB 0 ((vs.length : Int) - 1) x) then 2 else 0

theorem rowsChk_ok {n0 : Nat} : ∀ {vs : List (List Int)}, rowsChk n0 vs = 0 → ∀ r ∈ vs, r.length = n0 ∧ Ok20 r
  | [], _, r, h => by simp at h
  | v :: vs, h, r, hr => by
    rw [rowsChk] at h
    split at h
    · omega
    · rename_i h1
      split at h
      · omega
      · rename_i h2
        rcases List.mem_cons.1 hr with rfl | hr
        · refine ⟨by simpa using h1, fun x hx => ?_⟩
          simp only [List.any_eq_true, not_exists, not_and, Bool.not_eq_true', Bool.not_eq_false] at h2
          have := h2 x hx
          simpa [inB] using this
        · exact rowsChk_ok h r hr
theorem chkV_ok {vs : List (List Int)} (h : chkV vs = 0) : 0 < vs.length ∧ vs.length ≤ 4 ∧ (vs.getD 0 []).length ≤ 6 ∧ ∀ r ∈ vs, r.length = (vs.getD 0 []).length ∧ Ok20 r := by
  unfold chkV at h
  split at h
  · omega
  · rename_i h1
    split at h
    · omega
    · rename_i h2
      exact ⟨by omega, by omega, by omega, rowsChk_ok h⟩

end Go.Am.Share

/-
  What functions of chapter 07 compute, 5: divisions are opened; envy by more than one thing.
-/
set_option linter.unusedVariables false
set_option linter.unusedSimpArgs false
set_option maxRecDepth 10000
namespace Go.Am.Share

abbrev LNIL : LV := .lst true true 0 0 []
theorem vals0 (rs : List Row) (h : 0 < rs.length) : (vals rs).getD 0 [] = rs[0].l := by simp [vals, List.getD_eq_getElem?_getD, List.getElem?_eq_getElem h]

end Go.Am.Share


