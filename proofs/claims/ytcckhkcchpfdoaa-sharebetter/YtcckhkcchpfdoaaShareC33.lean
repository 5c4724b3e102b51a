import Derived.Test.YtcckhkcchpfdoaaShareC31
/-
  What functions of chapter 07 compute, 33: the program's better division, handed back; products.
-/
set_option linter.unusedVariables false
set_option linter.unusedSimpArgs false
set_option maxRecDepth 10000
namespace Go.Am.Share
theorem ownP_p (nl ex nl' ex' : Bool) (sz sz' : Nat) {rs : List Row} {o : List Int} (D : DOk rs o) (m : LMem) : clF LP n_share_division_own [.agg [VL nl ex sz rs, IL nl' ex' sz' o]] m = some (.P, IL false false 1 (ownL (vals rs) o 0 rs.length), m) := by
  have hr := own_run nl ex nl' ex' sz sz' D
  have hne := ownL_ne D
  have hv2 := view_grow 37 [⟨[VL nl ex sz rs, IL nl' ex' sz' o], true⟩] (ownL (vals rs) o 0 rs.length)
  have hd : decide (ownL (vals rs) o 0 rs.length = []) = false := by simpa using hne
  rw [if_neg hne, RL, hd] at hv2
  exact call_Pv lp_share_division_own rfl (by simp [LV.pures, LV.pure]) hr hv2 m
theorem betB_eq {rs : List Row} {q o : List Int} (Dq : DOk rs q) (Do : DOk rs o) : betB (vals rs) (ownL (vals rs) o 0 rs.length) q = better (vals rs) q o := by
  have h4 := Dq.le4
  unfold betB better
  rw [vals_length]
  have := betS_L (ownL (vals rs) q 0 rs.length) (ownL (vals rs) o 0 rs.length) 0 (by simp [ownL]) (ownL_bound Dq) (ownL_bound Do) (by omega) (by rw [ownL_length]; omega)
  rw [show decide ((0 : Int) < 0) = false from rfl] at this
  exact this
theorem find_congr {p q : List Int → Bool} : ∀ (l : List (List Int)), (∀ x ∈ l, p x = q x) → l.find? p = l.find? q
  | [], _ => rfl
  | x :: xs, h => by
    rw [List.find?_cons, List.find?_cons, h x (by simp), find_congr xs (fun y hy => h y (by simp [hy]))]
end Go.Am.Share

/-
  What functions of chapter 07 compute, 34: the greatest product.
-/
set_option linter.unusedVariables false
set_option linter.unusedSimpArgs false
set_option maxRecDepth 10000
namespace Go.Am.Share
end Go.Am.Share

/-
  What functions of chapter 07 compute, 35: the program's greatest product.
-/
set_option linter.unusedVariables false
set_option linter.unusedSimpArgs false
set_option maxRecDepth 10000
namespace Go.Am
namespace Share
end Share
end Go.Am


