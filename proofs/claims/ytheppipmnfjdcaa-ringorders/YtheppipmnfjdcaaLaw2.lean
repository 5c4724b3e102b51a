import Derived.Test.YtheppipmnfjdcaaLaw1
import Derived.ChangeSlices
import Derived.Deep.Matrix
import Derived.OpenShut
import Derived.ChangeArms
/-
  THE JOIN, 2: lists of numbers, and lists of lists, that came in.
-/
set_option linter.unusedVariables false
namespace Go.Am
variable [Glo]
open Go.ChangeShapes Go.RowKit Go.Deep

omit [Glo] in
theorem take_getD (zs : List Int) (n j : Nat) (h : j < (zs.take n).length) : (zs.take n)[j] = zs.getD j 0 := by
  simp only [List.getElem_take, List.getD_eq_getElem?_getD]
  rw [List.getElem?_eq_getElem (by simp at h; omega)]
  rfl

omit [Glo] in
/-- A list of numbers at an address. -/
theorem argOk_slice {w : World} {a : Addr} {len cap : Nat} {zs : List Int} (hl : len ≤ cap) (hz : zs.length = cap) (hc : ∀ i, i < zs.length → w.cell? (a.add i) = some (.int .i64 (zs.getD i 0))) :
    ArgOk w (.slice (some a) len cap) (IL false false 1 (zs.take len)) := by
  have hlen : (zs.take len).length = len := by rw [List.length_take]; omega
  by_cases h0 : cap = 0
  · -- no room at all
    have : len = 0 := by omega
    subst h0 this
    refine ⟨fun _ => [[]], [⟨0, 0, 0, false⟩], fun b => .slice b 0 0 0 0, fun _ => rfl, fun ρ b hp => ⟨.last, fun i cs p hcs hpp => ?_⟩, fun s b hs => ?_⟩
    · match i with
      | 0 => simp at hcs hpp; subst hcs hpp; exact ⟨rfl, ⟨fun j c h => by simp at h⟩⟩
      | i + 1 => simp at hcs
    · obtain ⟨hA, hb⟩ := hs 0 [] rfl
      exact .lst (blk := ⟨[], false⟩) hA hb (by simp) .nil rfl (Nat.le_refl _) (.inl rfl) (fun h => by cases h)
  · obtain ⟨bk, off, rfl, hat⟩ := ints_at hc (by omega)
    have hget : ∀ j (h : j < (zs.take len).length), (zs.take len)[j] = zs.getD j 0 := fun j h => take_getD zs len j h
    generalize zs.take len = l at hlen hget
    refine ⟨fun _ => [l.map (.int .i64)], [⟨bk, off, 0, false⟩], fun b => .slice b 0 len cap 0, fun _ => rfl, fun ρ b hp => ?_, fun s b hs => ?_⟩
    · have h1 : ρ b = some ⟨bk, off, 0, false⟩ := by simpa using hp 0 _ rfl
      refine ⟨VR.slice (o := 0) h1 rfl, fun i cs p hcs hpp => ?_⟩
      match i with
      | 0 =>
        simp at hcs hpp; subst hcs hpp
        refine ⟨rfl, ⟨fun j c h => ?_⟩⟩
        rw [List.getElem?_map] at h
        obtain ⟨x, hx, rfl⟩ := Option.map_eq_some_iff.1 h
        obtain ⟨hj, rfl⟩ := List.getElem?_eq_some_iff.1 hx
        exact ⟨_, hat j (by omega), by rw [hget]; exact .int _ _⟩
      | i + 1 => simp at hcs
    · obtain ⟨hA, hb⟩ := hs 0 _ rfl
      rw [Nat.add_zero] at hA hb
      subst hlen
      have e : ((l.map (AV.int .i64)).drop 0).take (l.length * 1) = l.map (AV.int .i64) := by rw [List.drop_zero, List.take_of_length_le (by simp)]
      exact LR.lst (s := s) (ex := false) (sz := 1) (n := l.length) (cs := l.map (LV.int .i64)) (o := 0) (cap := cap) (g := 0) hA hb (by simp) (by
        rw [e]; exact LRs.map _ fun x _ => .int _ _) (pures_int _ _) hl (.inl rfl) (fun h => by cases h)
omit [Glo] in
theorem argOk_nil {w : World} {cs : List LV} (ex : Bool) (sz : Nat) : ArgOk w (.slice none 0 0) (.lst true ex sz 0 []) :=
  ⟨fun _ => [], [], fun _ => .nilslice, fun _ => rfl, fun ρ b _ => ⟨.nilslice, fun i cs p h => by simp at h⟩, fun s b _ => .nil⟩

omit [Glo] in
/-- A list of numbers among the arguments. -/
theorem argOk_ints {H : Type} {enc : TypeId × Value → H} {P : Program} {w : World} {base fuel : Nat} {held : Bool} {t e : TypeId} {v : Value} {x : DataW H × List MemPlace} (ht : P.underlying t = some (.slice e)) (he : P.underlying e = some (.int .i64)) (hc : P.cellsOf e = 1)
    (h : DataW.trod enc P w base (fun _ => true) held fuel t [v] = some x) : ∃ nl l, (nl = true → l = []) ∧ ArgOk w v (IL nl false 1 l) := by
  rcases Go.ChangeShapes.open_ints ht he hc h with ⟨h1, _⟩ | ⟨a, len, cap, zs, h1, _, h3, _, h5, _, h7, _⟩
  · cases h1
    exact ⟨true, [], fun _ => rfl, argOk_nil (cs := []) false 1⟩
  · cases h1
    exact ⟨false, zs.take len, (fun h => by cases h), argOk_slice h3 (by simpa using h5) h7⟩
end Go.Am

/-
  THE JOIN, 6: lists of pairs of numbers that came in.
-/
set_option linter.unusedVariables false
namespace Go.Am
variable [Glo]
open Go.ChangeShapes Go.RowKit Go.Deep
section
variable {H : Type} {enc : TypeId × Value → H} {P : Program} {w : World} {base fuel : Nat} {sp : Nat → Bool} {held : Bool}

omit [Glo] in
theorem argOk_flat {w : World} {a : Addr} {len cap sz : Nat} {zs : List Int} (hl : len ≤ cap) (hsz : 0 < sz) (hz : zs.length = cap * sz) (hc : ∀ i, i < zs.length → w.cell? (a.add i) = some (.int .i64 (zs.getD i 0))) :
    ArgOk w (.slice (some a) len cap) (.lst false false sz len ((zs.take (len * sz)).map (LV.int .i64))) := by
  have hle : len * sz ≤ cap * sz := Nat.mul_le_mul_right _ hl
  have hlen : (zs.take (len * sz)).length = len * sz := by rw [List.length_take]; omega
  by_cases h0 : cap = 0
  · have : len = 0 := by omega
    subst h0 this
    have e : (zs.take (0 * sz)).map (LV.int .i64) = [] := by simp
    rw [e]
    refine ⟨fun _ => [[]], [⟨0, 0, 0, false⟩], fun b => .slice b 0 0 0 0, fun _ => rfl, fun ρ b hp => ⟨.last, fun i cs p hcs hpp => ?_⟩, fun s b hs => ?_⟩
    · match i with
      | 0 => simp at hcs hpp; subst hcs hpp; exact ⟨rfl, ⟨fun j c h => by simp at h⟩⟩
      | i + 1 => simp at hcs
    · obtain ⟨hA, hb⟩ := hs 0 [] rfl
      exact .lst (blk := ⟨[], false⟩) hA hb (by simp) (by simpa using LRs.nil) rfl (Nat.le_refl _) (.inl rfl) (fun h => by cases h)
  · have hpos : 0 < cap * sz := Nat.mul_pos (by omega) hsz
    obtain ⟨bk, off, rfl, hat⟩ := ints_at hc (by omega)
    have hget : ∀ j (h : j < (zs.take (len * sz)).length), (zs.take (len * sz))[j] = zs.getD j 0 := fun j h => take_getD zs (len * sz) j h
    generalize zs.take (len * sz) = l at hlen hget
    refine ⟨fun _ => [l.map (.int .i64)], [⟨bk, off, 0, false⟩], fun b => .slice b 0 len cap 0, fun _ => rfl, fun ρ b hp => ?_, fun s b hs => ?_⟩
    · have h1 : ρ b = some ⟨bk, off, 0, false⟩ := by simpa using hp 0 _ rfl
      refine ⟨VR.slice (o := 0) h1 rfl, fun i cs p hcs hpp => ?_⟩
      match i with
      | 0 =>
        simp at hcs hpp; subst hcs hpp
        refine ⟨rfl, ⟨fun j c h => ?_⟩⟩
        rw [List.getElem?_map] at h
        obtain ⟨x, hx, rfl⟩ := Option.map_eq_some_iff.1 h
        obtain ⟨hj, rfl⟩ := List.getElem?_eq_some_iff.1 hx
        exact ⟨_, hat j (by omega), by rw [hget]; exact .int _ _⟩
      | i + 1 => simp at hcs
    · obtain ⟨hA, hb⟩ := hs 0 _ rfl
      rw [Nat.add_zero] at hA hb
      have e : ((l.map (AV.int .i64)).drop 0).take (len * sz) = l.map (AV.int .i64) := by rw [List.drop_zero, List.take_of_length_le (by simp; omega)]
      exact LR.lst (s := s) (ex := false) (sz := sz) (n := len) (cs := l.map (LV.int .i64)) (o := 0) (cap := cap) (g := 0) hA hb (by simp; omega) (by
        rw [e]; exact LRs.map _ fun x _ => .int _ _) (pures_int _ _) hl (.inl rfl) (fun h => by cases h)
omit [Glo] in
theorem pair_of {e q : TypeId} {cs : List Value} {x : DataW H × List MemPlace} (he : P.underlying e = some (.array 2 q)) (hq : P.underlying q = some (.int .i64)) (ce : P.cellsOf e = 2) (cq : P.cellsOf q = 1)
    (h : DataW.trod enc P w base sp held fuel e cs = some x) : ∃ a b : Int, cs = [.int .i64 a, .int .i64 b] := by
  obtain ⟨xs, m', _, _, hl, hxl, hf⟩ := DataW.trod_array he h
  rw [ce] at hl
  rw [cq] at hf
  have one : ∀ i, i < 2 → ∃ a : Int, (cs.drop (i * 1)).take 1 = [.int .i64 a] := by
    intro i hi
    have h4 := hf i hi
    obtain ⟨y, hy⟩ : ∃ y, xs[i]? = some y := ⟨xs[i]'(by omega), List.getElem?_eq_getElem (by omega)⟩
    rw [hy] at h4
    obtain ⟨a, h5, _, _⟩ := DataW.trod_int hq h4
    exact ⟨a, h5⟩
  obtain ⟨a, ha⟩ := one 0 (by omega)
  obtain ⟨b, hb⟩ := one 1 (by omega)
  match cs, hl with
  | [u, v], _ =>
    simp at ha hb
    exact ⟨a, b, by rw [ha, hb]⟩
/-- A list of pairs of numbers, in one row. -/
def flatP (l : List (Int × Int)) : List Int := l.flatMap fun p => [p.1, p.2]
omit [Glo] in
theorem flatP_len (l : List (Int × Int)) : (flatP l).length = l.length * 2 := by
  induction l with
  | nil => rfl
  | cons a r ih =>
    have e : flatP (a :: r) = a.1 :: a.2 :: flatP r := rfl
    rw [e, List.length_cons, List.length_cons, List.length_cons, ih]; omega
omit [Glo] in
theorem flatP_take : ∀ (l : List (Int × Int)) (n : Nat), (flatP l).take (n * 2) = flatP (l.take n)
  | [], n => by simp [flatP]
  | a :: r, 0 => by simp [flatP]
  | a :: r, n + 1 => by
    have e : flatP (a :: r) = a.1 :: a.2 :: flatP r := rfl
    have e2 : flatP (a :: r.take n) = a.1 :: a.2 :: flatP (r.take n) := rfl
    rw [e, show (n + 1) * 2 = n * 2 + 1 + 1 by omega, List.take_succ_cons, List.take_succ_cons, flatP_take r n, List.take_succ_cons, e2]
omit [Glo] in
/-- A list of pairs of numbers among the arguments. -/
theorem argOk_pairs {t e q : TypeId} {v : Value} {x : DataW H × List MemPlace} (ht : P.underlying t = some (.slice e)) (he : P.underlying e = some (.array 2 q)) (hq : P.underlying q = some (.int .i64)) (ce : P.cellsOf e = 2) (cq : P.cellsOf q = 1)
    (h : DataW.trod enc P w base (fun _ => true) held fuel t [v] = some x) : ∃ (nl : Bool) (l : List (Int × Int)), (nl = true → l = []) ∧ ArgOk w v (.lst nl false 2 l.length ((flatP l).map (LV.int .i64))) := by
  rcases DataW.trod_slice ht h with ⟨h0, _⟩ | ⟨a, len, cap, elems, rest, n, _, h1, _, hb, hl, _, hlen, hel, hsp, _⟩
  · cases h0
    exact ⟨true, [], fun _ => rfl, argOk_nil (cs := []) false 2⟩
  · cases h1
    obtain ⟨hrl, hr⟩ := hsp rfl
    have each : ∀ i, i < cap → ∃ p : Int × Int, w.cell? (a.add (i * 2)) = some (.int .i64 p.1) ∧ w.cell? (a.add (i * 2 + 1)) = some (.int .i64 p.2) := by
      intro i hi
      have : ∃ y, (w.cells? base (a.add (i * P.cellsOf e)) (P.cellsOf e)).bind (DataW.trod enc P w base (fun _ => true) held n e) = some y := by
        by_cases c : i < len
        · exact ⟨elems[i]'(by omega), by rw [hel i c, List.getElem?_eq_getElem (by omega)]⟩
        · have := hr (i - len) (by omega)
          rw [show len + (i - len) = i by omega] at this
          exact ⟨rest[i - len]'(by omega), by rw [this, List.getElem?_eq_getElem (by omega)]⟩
      obtain ⟨y, hy⟩ := this
      rw [ce, Option.bind_eq_some_iff] at hy
      obtain ⟨cs, hcs, hy⟩ := hy
      obtain ⟨u, v, rfl⟩ := pair_of he hq ce cq hy
      obtain ⟨_, _, hat⟩ := World.cells?_some hcs
      refine ⟨(u, v), ?_, ?_⟩
      · exact hat 0 (by omega)
      · have := hat 1 (by omega)
        have e1 : (a.add (i * 2)).add 1 = a.add (i * 2 + 1) := by
          unfold Addr.add
          by_cases c : i = 0
          · subst c; simp
          · have c2 : ¬ i * 2 = 0 := by omega
            simp only [c2, if_false, show ¬ (1 = 0) by omega, show ¬ (i * 2 + 1 = 0) by omega]
            simp
        rw [e1] at this
        exact this
    have all : ∀ k, k ≤ cap → ∃ l : List (Int × Int), l.length = k ∧ ∀ i, i < k * 2 → w.cell? (a.add i) = some (.int .i64 ((flatP l).getD i 0)) := by
      intro k
      induction k with
      | zero => intro _; exact ⟨[], rfl, fun i hi => by omega⟩
      | succ k ih =>
        intro hk
        obtain ⟨l, h1, h2⟩ := ih (by omega)
        obtain ⟨p, p1, p2⟩ := each k (by omega)
        have hfl := flatP_len l
        have e : flatP (l ++ [p]) = flatP l ++ [p.1, p.2] := by simp [flatP]
        refine ⟨l ++ [p], by simp [h1], fun i hi => ?_⟩
        rw [e, List.getD_eq_getElem?_getD]
        by_cases c : i < k * 2
        · rw [List.getElem?_append_left (by omega), ← List.getD_eq_getElem?_getD]
          exact h2 i c
        · rw [List.getElem?_append_right (by omega), hfl, h1]
          by_cases c2 : i = k * 2
          · subst c2; simpa using p1
          · obtain rfl : i = k * 2 + 1 := by omega
            simpa using p2
    obtain ⟨l, h1, h2⟩ := all cap (Nat.le_refl _)
    refine ⟨false, l.take len, (fun h => by cases h), ?_⟩
    have := argOk_flat (w := w) (a := a) (zs := flatP l) hl (by omega : 0 < 2) (by rw [flatP_len, h1]) (fun i hi => h2 i (by rw [flatP_len, h1] at hi; exact hi))
    rw [flatP_take] at this
    rw [show (l.take len).length = len by rw [List.length_take]; omega]
    exact this
end
end Go.Am


