/-
  What functions of chapter 07 compute, 11: all worths; the law of worths.
-/
import Derived.Test.YtcckhkcchpfdoaaShareC10
set_option linter.unusedVariables false
set_option linter.unusedSimpArgs false
set_option maxRecDepth 10000
namespace Go.Am.Share

abbrev ints (l : List Int) : List LV := l.map (LV.int .i64)
abbrev rlv (l : List Int) : LV := IL false false 1 l
def WMem (ds : LMem) (R : List (List Int)) : LMem := match R with
  | [] => ds
  | r :: rs => ds ++ (⟨ints r, false⟩ :: ⟨(r :: rs).map rlv, true⟩ :: rs.map fun r => ⟨ints r, false⟩)
def WVal (b : Nat) (R : List (List Int)) : LV := if R = [] then .lst true true 0 0 [] else .sl (b + 1) 0 R.length R.length 1 1 R.length
theorem pures_rlv (R : List (List Int)) : LV.pures (R.map rlv) = true := by
  induction R with
  | nil => rfl
  | cons a r ih => simp [LV.pures, LV.pure, ih]
theorem view_row (pre : LMem) (l : List Int) (hl : l ≠ []) : views (pre ++ GM l) [GV pre.length l] = some ([rlv l], [pre.length]) := by
  have hv : ∀ k, view (k + 3) (pre ++ GM l) (GV pre.length l) = some (rlv l, [pre.length]) := fun k => by
    have := view_grow k pre l
    have hd : decide (l = []) = false := by simpa using hl
    rw [if_neg hl] at this
    simp only [RL, hd, cond_false] at this
    exact this
  have hnp : LV.pures [GV pre.length l] = false := by simp [GV, hl, LV.pures, LV.pure]
  unfold views
  rw [viewL.eq_def]
  simp only [hnp, cond_false]
  rw [viewC.eq_def]
  simp only [hv 35]
  rw [viewC.eq_def]
  rfl
theorem freeze_row (pre : LMem) (l : List Int) (hl : l ≠ []) : freeze [pre.length] (pre ++ GM l) = pre ++ [⟨ints l, false⟩] := by
  simp [freeze, freeze1, GM, hl]
theorem worth_app (ds : LMem) (R : List (List Int)) (l : List Int) (hR : R.length < 1000000) : appendL (WMem ds R ++ [⟨ints l, false⟩]) 1 24 (WVal ds.length R) (.lst false true 1 1 [rlv l]) = some (WVal ds.length (R ++ [l]), WMem ds (R ++ [l])) := by
  have h3 : ∀ m, contents m 1 (.lst false true 1 1 [rlv l]) = some ([rlv l], 1) := fun m => rfl
  have hroom : (Nat.ble ((R.length + 1) * 24) roomMost && Nat.ble (R.length + 1) roomMost && [rlv l].all LV.scalar) = true := by
    have h1 : (R.length + 1) * 24 ≤ roomMost := by unfold roomMost; omega
    have h2 : R.length + 1 ≤ roomMost := by unfold roomMost; omega
    simp [nble, h1, h2, LV.scalar]
  cases R with
  | nil =>
    simp only [WMem, WVal, appendL, h3]
    simp [contents, newSl, roomMost, nble, nbeq, LV.scalar]
  | cons r rs =>
    have h1 : (WMem ds (r :: rs) ++ [⟨ints l, false⟩])[ds.length + 1]? = some ⟨(r :: rs).map rlv, true⟩ := by simp [WMem]
    have h2 : contents (WMem ds (r :: rs) ++ [⟨ints l, false⟩]) 1 (WVal ds.length (r :: rs)) = some ((r :: rs).map rlv, (r :: rs).length) := by
      simp only [WVal, if_neg (List.cons_ne_nil r rs), contents, h1]
      simp only [List.drop_zero, Nat.zero_add, nble, nbeq, Nat.mul_one, List.length_map, Nat.le_refl, decide_true, Bool.and_self, cond_true]
      rw [List.take_of_length_le (by simp)]
    have h5 : Nat.ble ((r :: rs).length + 1) (r :: rs).length = false := by rw [nble]; simp
    have h6 : Nat.blt (r :: rs).length (((r :: rs).length + 1) * 1) = true := by rw [nblt, decide_eq_true_eq]; omega
    unfold appendL
    simp only [h2, h3, hroom]
    simp only [WVal, if_neg (List.cons_ne_nil r rs), h1, h5, h6]
    simp [WMem, nbeq]

theorem share_d (nl ex nl' ex' : Bool) (sz sz' : Nat) {rs : List Row} {o : List Int} (D : DOk rs o) {i : Nat} (hi : i < rs.length) (j : Nat) (m : LMem) :
    clF LP n_share_division_share [.agg [VL nl ex sz rs, IL nl' ex' sz' o], .int .i64 (i : Int), .int .i64 (j : Int)] m = some (.P, .tup [.int .i64 (ws j ((vals rs).getD i []) o 0), .int .i64 (wg j rs[i].l o (0, 0)).2], m) := by
  rw [share_c nl ex nl' ex' sz sz' rs i hi o (D.len i hi) (D.ok i hi) (by have := D.le6; omega) j m, wg_ws, vals_at rs i hi]
theorem worth_d (nl ex nl' ex' : Bool) (sz sz' : Nat) {rs : List Row} {o : List Int} (D : DOk rs o) {i : Nat} (hi : i < rs.length) (j : Nat) (m : LMem) :
    clF LP n_ref07_worth [VL nl ex sz rs, IL nl' ex' sz' o, .int .i64 (i : Int), .int .i64 (j : Int)] m = some (.P, .int .i64 (ws j ((vals rs).getD i []) o 0), m) := by
  rw [worth_c nl ex nl' ex' sz sz' rs i hi o (D.len i hi) (D.ok i hi) (by have := D.le6; omega) j m, vals_at rs i hi]

end Go.Am.Share

