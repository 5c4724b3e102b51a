import Derived.Test.YtcckhkcchpfdoaaShareC17
import Derived.Test.YtcckhkcchpfdoaaShareWorks
/-
  What functions of chapter 07 compute, 26: the reference's list of all divisions.
-/
set_option linter.unusedVariables false
set_option linter.unusedSimpArgs false
set_option maxRecDepth 10000
namespace Go.Am.Share
def allS (N : Nat) (P : List (List Int)) : List (List Int) := P.flatMap fun p => (List.range' 0 N).map fun j : Nat => p ++ [(j : Int)]
def allD (N : Nat) : Nat → List (List Int)
  | 0 => [[]]
  | t + 1 => allS N (allD N t)
theorem allS_length (N : Nat) : ∀ (P : List (List Int)), (allS N P).length = N * P.length
  | [] => by simp [allS]
  | p :: r => by
    have := allS_length N r
    unfold allS at this ⊢
    rw [List.flatMap_cons, List.length_append, this, List.length_map, List.length_range', List.length_cons]
    rw [Nat.mul_add, Nat.mul_one, Nat.add_comm]
theorem allD_length (N : Nat) : ∀ (t : Nat), (allD N t).length = N ^ t
  | 0 => rfl
  | t + 1 => by rw [allD, allS_length, allD_length N t, Nat.pow_succ, Nat.mul_comm]
theorem allD_mem (N : Nat) : ∀ (t : Nat), ∀ q ∈ allD N t, q.length = t ∧ ∀ x ∈ q, 0 ≤ x ∧ x < (N : Int)
  | 0, q, h => by simp [allD] at h; subst h; simp
  | t + 1, q, h => by
    simp only [allD, allS, List.mem_flatMap, List.mem_map, List.mem_range'] at h
    obtain ⟨p, hp, j, ⟨i, hi, rfl⟩, rfl⟩ := h
    obtain ⟨a, b⟩ := allD_mem N t p hp
    refine ⟨by simp [a], fun x hx => ?_⟩
    rcases List.mem_append.1 hx with c | c
    · exact b x c
    · simp at c; omega
end Go.Am.Share

/-
  What functions of chapter 07 compute, 25: fair divisions are counted.
-/
set_option linter.unusedVariables false
set_option linter.unusedSimpArgs false
set_option maxRecDepth 10000
namespace Go.Am.Share
theorem views_d (m : LMem) (V : LV) (hV : V.pure = true) (i L g : Nat) (o : List Int) (b : Bool) (h : m[i]? = some ⟨o.map (LV.int .i64), b⟩) (hL : o.length = L) : views m [.agg [V, .sl i 0 L L g 1 L]] = some ([.agg [V, IL false (Nat.beq g 0) 1 o]], [i]) := by
  show viewL (26 + 13 + 1) m _ = _
  rw [viewL.eq_def]
  have hn : LV.pures [.agg [V, .sl i 0 L L g 1 L]] = false := by simp [LV.pures, LV.pure]
  simp only [hn, cond_false]
  rw [viewC.eq_def]
  have := view_d 25 m V hV i L g o b h hL
  simp only [this]
  rw [viewC.eq_def]
  rfl
/-! ### Count -/
abbrev PUT (c : Nat) : LV := .func n_share_each_1 [] [.ptr (c + 3) 0 2, .ptr c 0 1, .ptr (c + 4) 0 1]
theorem dok_len {rs : List Row} {L : Nat} (D : VOk rs L) {o : List Int} (h : o.length = L) : DOk rs o := ⟨D.pos, D.le4, fun i hi => by rw [h, D.len i hi], D.ok, by rw [h]; exact D.le6⟩
end Go.Am.Share


