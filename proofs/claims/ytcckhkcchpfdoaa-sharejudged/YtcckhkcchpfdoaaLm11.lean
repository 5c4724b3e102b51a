/-
  THE LIST MACHINE, 11: views, lists that grow, lists of lists, calls: more rules. No statement of the seat is proved here.
-/
import Derived.Test.YtcckhkcchpfdoaaLm10
import Derived.KernelRfl
set_option linter.unusedVariables false
set_option linter.unusedSimpArgs false
namespace Go.Am.G
variable [Glo]
omit [Glo] in
theorem freeze_nil (m : LMem) : freeze [] m = m := by
  unfold freeze; simp
omit [Glo] in
theorem set_int (k : IntKind) (l : List Int) (i : Nat) (x : Int) (h : i < l.length) : (l.map (LV.int k)).take i ++ [.int k x] ++ (l.map (LV.int k)).drop (i + 1) = (l.set i x).map (LV.int k) := by
  rw [List.map_set, List.set_eq_take_append_cons_drop, if_pos (by simpa using h)]
  simp
omit [Glo] in
theorem views_one (k : Nat) (m : LMem) (a a' : LV) (ids : List Nat) (h : ∀ k, view (k + 3) m a = some (a', ids)) (hn : LV.pures [a] = false) : viewL (k + 8) m [a] = some ([a'], ids) := by
  rw [viewL.eq_def]
  simp only [hn, cond_false]
  rw [viewC.eq_def]
  simp only [h]
  rw [viewC.eq_def]
  simp
omit [Glo] in
/-- The view of a list in memory whose cells are pure. -/
theorem view_slc (k : Nat) (m : LMem) (i p n L g c sz : Nat) (cs : List LV) (b : Bool) (h : m[i]? = some ⟨cs, b⟩) (hpu : LV.pures ((cs.drop p).take (n * sz)) = true) (hL : cs.length = L) (hp : p + n * sz ≤ L) (hc : n ≤ c) : view (k + 3) m (.sl i p n c g sz L) = some (.lst false (Nat.beq g 0 && Nat.beq c n) sz n ((cs.drop p).take (n * sz)), [i]) := by
  simp only [view, h, viewL_pures _ _ _ hpu]
  simp [nbeq, nble, hL, hp, hc]
omit [Glo] in
theorem view_sl (k : Nat) (m : LMem) (i p n L g : Nat) (cs : List Int) (b : Bool) (h : m[i]? = some ⟨cs.map (LV.int .i64), b⟩) (hL : cs.length = L) (hp : p + n ≤ L) (c : Nat) (hc : n ≤ c) : view (k + 3) m (.sl i p n c g 1 L) = some (IL false (Nat.beq g 0 && Nat.beq c n) 1 ((cs.drop p).take n), [i]) := by
  have h2 : ((cs.map (LV.int .i64)).drop p).take (n * 1) = ((cs.drop p).take n).map (LV.int .i64) := by simp [List.map_take, List.map_drop]
  simp only [view, h, h2, viewL_pures _ _ _ (pures_int .i64 _)]
  have : ((cs.drop p).take n).length = n := by simp; omega
  simp [nbeq, nble, hL, hp, hc, this]
/-! ### Lists of lists -/
abbrev ints (l : List Int) : List LV := l.map (LV.int .i64)
abbrev rlv (l : List Int) : LV := IL false false 1 l
def WMem (ds : LMem) (R : List (List Int)) : LMem := match R with
  | [] => ds
  | r :: rs => ds ++ (⟨ints r, false⟩ :: ⟨(r :: rs).map rlv, true⟩ :: rs.map fun r => ⟨ints r, false⟩)
def WVal (b : Nat) (R : List (List Int)) : LV := if R = [] then .lst true true 0 0 [] else .sl (b + 1) 0 R.length R.length 1 1 R.length
omit [Glo] in
theorem pures_rlv (R : List (List Int)) : LV.pures (R.map rlv) = true := by
  induction R with
  | nil => rfl
  | cons a r ih => simp [LV.pures, LV.pure, ih]
omit [Glo] in
theorem view_row (pre : LMem) (l : List Int) (hl : l ≠ []) : views (pre ++ GM l) [GV pre.length l] = some ([rlv l], [pre.length]) := by
  have hv : ∀ k, view (k + 3) (pre ++ GM l) (GV pre.length l) = some (rlv l, [pre.length]) := fun k => by
    have := view_grow k pre l
    have hd : decide (l = []) = false := by simpa using hl
    rw [if_neg hl] at this
    simp only [RL, hd, cond_false] at this
    exact this
  exact views_one 32 _ _ _ _ hv (by simp [GV, hl, LV.pures, LV.pure])
omit [Glo] in
theorem freeze_row (pre : LMem) (l : List Int) (hl : l ≠ []) : freeze [pre.length] (pre ++ GM l) = pre ++ [⟨ints l, false⟩] := by
  simp [freeze, freeze1, GM, hl]
omit [Glo] in
theorem zeros_int (k : IntKind) (n : Nat) : zerosL [.int k 0] n = (List.replicate n (0 : Int)).map (LV.int k) := by
  unfold zerosL
  apply List.ext_getElem (by simp)
  intro i h1 h2
  simp [Nat.mod_one]
end Go.Am.G

