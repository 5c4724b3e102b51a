/-
  THE JOIN, 2: lists of numbers, and lists of lists, that came in.
-/
import Derived.Test.YtgogknjedpmcgaaLaw1
import Derived.ChangeSlices
import Derived.Deep.Matrix
import Derived.OpenShut
set_option linter.unusedVariables false
namespace Go.Am
open Go.ChangeShapes Go.RowKit Go.Deep

theorem take_getD (zs : List Int) (n j : Nat) (h : j < (zs.take n).length) : (zs.take n)[j] = zs.getD j 0 := by
  simp only [List.getElem_take, List.getD_eq_getElem?_getD]
  rw [List.getElem?_eq_getElem (by simp at h; omega)]
  rfl

/-- A list of numbers at an address. -/
theorem argOk_slice {w : World} {a : Addr} {len cap : Nat} {zs : List Int} (hl : len ≤ cap) (hz : zs.length = cap) (hc : ∀ i, i < zs.length → w.cell? (a.add i) = some (.int .i64 (zs.getD i 0))) :
    ArgOk w (.slice (some a) len cap) (IL false false 1 (zs.take len)) := by
  have hlen : (zs.take len).length = len := by rw [List.length_take]; omega
  by_cases h0 : cap = 0
  · -- no room at all
    have : len = 0 := by omega
    subst h0 this
    refine ⟨fun _ => [[]], [⟨0, 0, 0⟩], fun b => .slice b 0 0 0 0, fun _ => rfl, fun ρ b hp => ⟨.last, fun i cs p hcs hpp => ?_⟩, fun s b hs => ?_⟩
    · match i with
      | 0 => simp at hcs; subst hcs; exact ⟨fun j c h => by simp at h⟩
      | i + 1 => simp at hcs
    · obtain ⟨hA, hb⟩ := hs 0 [] rfl
      exact .lst (blk := ⟨[], false⟩) hA hb (by simp) .nil rfl (Nat.le_refl _) (.inl rfl) (fun h => by cases h)
  · obtain ⟨bk, off, rfl, hat⟩ := ints_at hc (by omega)
    have hget : ∀ j (h : j < (zs.take len).length), (zs.take len)[j] = zs.getD j 0 := fun j h => take_getD zs len j h
    generalize zs.take len = l at hlen hget
    refine ⟨fun _ => [l.map (.int .i64)], [⟨bk, off, 0⟩], fun b => .slice b 0 len cap 0, fun _ => rfl, fun ρ b hp => ?_, fun s b hs => ?_⟩
    · have h1 : ρ b = some ⟨bk, off, 0⟩ := by simpa using hp 0 _ rfl
      refine ⟨VR.slice (o := 0) h1, fun i cs p hcs hpp => ?_⟩
      match i with
      | 0 =>
        simp at hcs hpp; subst hcs hpp
        refine ⟨fun j c h => ?_⟩
        rw [List.getElem?_map] at h
        obtain ⟨x, hx, rfl⟩ := Option.map_eq_some_iff.1 h
        obtain ⟨hj, rfl⟩ := List.getElem?_eq_some_iff.1 hx
        exact ⟨_, hat j (by omega), by rw [hget]; exact .int _ _⟩
      | i + 1 => simp at hcs
    · obtain ⟨hA, hb⟩ := hs 0 _ rfl
      rw [Nat.add_zero] at hA hb
      subst hlen
      have e : ((l.map (AV.int .i64)).drop 0).take (l.length * 1) = l.map (AV.int .i64) := by rw [List.drop_zero, List.take_of_length_le (by simp)]
      exact LR.lst (s := s) (ex := false) (sz := 1) (n := l.length) (cs := l.map (LV.int .i64)) (o := 0) (cap := cap) (g := 0) hA hb (by simp) (by
        rw [e]; exact LRs.map _ fun x _ => .int _ _) (pures_int _ _) hl (.inl rfl) (fun h => by cases h)
theorem argOk_nil {w : World} {cs : List LV} (ex : Bool) (sz : Nat) : ArgOk w (.slice none 0 0) (.lst true ex sz 0 []) :=
  ⟨fun _ => [], [], fun _ => .nilslice, fun _ => rfl, fun ρ b _ => ⟨.nilslice, fun i cs p h => by simp at h⟩, fun s b _ => .nil⟩

/-- A list of numbers among the arguments. -/
theorem argOk_ints {H : Type} {enc : TypeId × Value → H} {P : Program} {w : World} {base fuel : Nat} {held : Bool} {t e : TypeId} {v : Value} {x : DataW H × List MemPlace} (ht : P.underlying t = some (.slice e)) (he : P.underlying e = some (.int .i64)) (hc : P.cellsOf e = 1)
    (h : DataW.trod enc P w base (fun _ => true) held fuel t [v] = some x) : ∃ nl l, (nl = true → l = []) ∧ ArgOk w v (IL nl false 1 l) := by
  rcases Go.ChangeShapes.open_ints ht he hc h with ⟨h1, _⟩ | ⟨a, len, cap, zs, h1, _, h3, _, h5, _, h7, _⟩
  · cases h1
    exact ⟨true, [], fun _ => rfl, argOk_nil (cs := []) false 1⟩
  · cases h1
    exact ⟨false, zs.take len, (fun h => by cases h), argOk_slice h3 (by simpa using h5) h7⟩
end Go.Am

