/-
  THE JOIN, 2: lists of numbers, and lists of lists, that came in.
-/
import Derived.Test.YtcckhkcchpfdoaaLaw1
import Derived.ChangeSlices
import Derived.Deep.Matrix
import Derived.OpenShut
set_option linter.unusedVariables false
namespace Go.Am
open Go.ChangeShapes Go.RowKit Go.Deep

theorem take_getD (zs : List Int) (n j : Nat) (h : j < (zs.take n).length) : (zs.take n)[j] = zs.getD j 0 := by
  simp only [List.getElem_take, List.getD_eq_getElem?_getD]
  rw [List.getElem?_eq_getElem (by simp at h; omega)]
  rfl

/-- A list of numbers at an address. -/
theorem argOk_slice {w : World} {a : Addr} {len cap : Nat} {zs : List Int} (hl : len ≤ cap) (hz : zs.length = cap) (hc : ∀ i, i < zs.length → w.cell? (a.add i) = some (.int .i64 (zs.getD i 0))) :
    ArgOk w (.slice (some a) len cap) (IL false false 1 (zs.take len)) := by
  have hlen : (zs.take len).length = len := by rw [List.length_take]; omega
  by_cases h0 : cap = 0
  · -- no room at all
    have : len = 0 := by omega
    subst h0 this
    refine ⟨fun _ => [[]], [⟨0, 0, 0⟩], fun b => .slice b 0 0 0 0, fun _ => rfl, fun ρ b hp => ⟨.last, fun i cs p hcs hpp => ?_⟩, fun s b hs => ?_⟩
    · match i with
      | 0 => simp at hcs; subst hcs; exact ⟨fun j c h => by simp at h⟩
      | i + 1 => simp at hcs
    · obtain ⟨hA, hb⟩ := hs 0 [] rfl
      exact .lst (blk := ⟨[], false⟩) hA hb (by simp) .nil rfl (Nat.le_refl _) (.inl rfl) (fun h => by cases h)
  · obtain ⟨bk, off, rfl, hat⟩ := ints_at hc (by omega)
    have hget : ∀ j (h : j < (zs.take len).length), (zs.take len)[j] = zs.getD j 0 := fun j h => take_getD zs len j h
    generalize zs.take len = l at hlen hget
    refine ⟨fun _ => [l.map (.int .i64)], [⟨bk, off, 0⟩], fun b => .slice b 0 len cap 0, fun _ => rfl, fun ρ b hp => ?_, fun s b hs => ?_⟩
    · have h1 : ρ b = some ⟨bk, off, 0⟩ := by simpa using hp 0 _ rfl
      refine ⟨VR.slice (o := 0) h1, fun i cs p hcs hpp => ?_⟩
      match i with
      | 0 =>
        simp at hcs hpp; subst hcs hpp
        refine ⟨fun j c h => ?_⟩
        rw [List.getElem?_map] at h
        obtain ⟨x, hx, rfl⟩ := Option.map_eq_some_iff.1 h
        obtain ⟨hj, rfl⟩ := List.getElem?_eq_some_iff.1 hx
        exact ⟨_, hat j (by omega), by rw [hget]; exact .int _ _⟩
      | i + 1 => simp at hcs
    · obtain ⟨hA, hb⟩ := hs 0 _ rfl
      rw [Nat.add_zero] at hA hb
      subst hlen
      have e : ((l.map (AV.int .i64)).drop 0).take (l.length * 1) = l.map (AV.int .i64) := by rw [List.drop_zero, List.take_of_length_le (by simp)]
      exact LR.lst (s := s) (ex := false) (sz := 1) (n := l.length) (cs := l.map (LV.int .i64)) (o := 0) (cap := cap) (g := 0) hA hb (by simp) (by
        rw [e]; exact LRs.map _ fun x _ => .int _ _) (pures_int _ _) hl (.inl rfl) (fun h => by cases h)
theorem argOk_nil {w : World} {cs : List LV} (ex : Bool) (sz : Nat) : ArgOk w (.slice none 0 0) (.lst true ex sz 0 []) :=
  ⟨fun _ => [], [], fun _ => .nilslice, fun _ => rfl, fun ρ b _ => ⟨.nilslice, fun i cs p h => by simp at h⟩, fun s b _ => .nil⟩

/-- A list of numbers among the arguments. -/
theorem argOk_ints {H : Type} {enc : TypeId × Value → H} {P : Program} {w : World} {base fuel : Nat} {held : Bool} {t e : TypeId} {v : Value} {x : DataW H × List MemPlace} (ht : P.underlying t = some (.slice e)) (he : P.underlying e = some (.int .i64)) (hc : P.cellsOf e = 1)
    (h : DataW.trod enc P w base (fun _ => true) held fuel t [v] = some x) : ∃ nl l, (nl = true → l = []) ∧ ArgOk w v (IL nl false 1 l) := by
  rcases Go.ChangeShapes.open_ints ht he hc h with ⟨h1, _⟩ | ⟨a, len, cap, zs, h1, _, h3, _, h5, _, h7, _⟩
  · cases h1
    exact ⟨true, [], fun _ => rfl, argOk_nil (cs := []) false 1⟩
  · cases h1
    exact ⟨false, zs.take len, (fun h => by cases h), argOk_slice h3 (by simpa using h5) h7⟩
/-- A list of things that are told one by one. -/
theorem argOk_sliceOf {w : World} {a : Addr} {len cap : Nat} {vs : List Value} {lvs : List LV} (hl : len ≤ cap) (hv : vs.length = len) (hp : cap = 0 ∨ ∃ bk off, a = ⟨bk, off, none⟩ ∧ ∀ j v, vs[j]? = some v → w.cell? ⟨bk, off + j, none⟩ = some v)
    (ha : ArgsOk w vs lvs) (hpure : LV.pures lvs = true) : ArgOk w (.slice (some a) len cap) (.lst false false 1 len lvs) := by
  have hll : ∀ {vs : List Value} {lvs : List LV}, ArgsOk w vs lvs → lvs.length = vs.length := by
    intro vs lvs h
    induction h with
    | nil => rfl
    | cons _ _ ih => simp [ih]
  rcases hp with h0 | ⟨bk, off, rfl, hat⟩
  · have hlen : len = 0 := by omega
    subst h0 hlen
    have : lvs = [] := by have := hll ha; rw [hv] at this; simpa using this
    subst this
    refine ⟨fun _ => [[]], [⟨0, 0, 0⟩], fun b => .slice b 0 0 0 0, fun _ => rfl, fun ρ b hp => ⟨.last, fun i cs p hcs hpp => ?_⟩, fun s b hs => ?_⟩
    · match i with
      | 0 => simp at hcs; subst hcs; exact ⟨fun j c h => by simp at h⟩
      | i + 1 => simp at hcs
    · obtain ⟨hA, hb⟩ := hs 0 [] rfl
      exact .lst (blk := ⟨[], false⟩) hA hb (by simp) .nil rfl (Nat.le_refl _) (.inl rfl) (fun h => by cases h)
  · obtain ⟨bl, ps, avs, h1, h2, h3⟩ := args_all ha
    refine ⟨fun b => avs (b + 1) :: bl (b + 1), ⟨bk, off, 0⟩ :: ps, fun b => .slice b 0 len cap 0, fun b => by simp [h1], fun ρ b hp => ?_, fun s b hs => ?_⟩
    · have e0 : ρ b = some ⟨bk, off, 0⟩ := by simpa using hp 0 _ rfl
      have hp' : Placed ρ (b + 1) ps := fun i p h => by
        have := hp (i + 1) p (by simpa using h)
        rw [show b + 1 + i = b + (i + 1) by omega]; exact this
      obtain ⟨k1, k2⟩ := h2 ρ (b + 1) hp'
      refine ⟨VR.slice (o := 0) e0, fun i cs p hcs hpp => ?_⟩
      match i with
      | 0 =>
        simp at hcs hpp; subst hcs hpp
        refine ⟨fun j c h => ?_⟩
        obtain ⟨u, hu, hvr⟩ := k1.get h
        exact ⟨u, hat j u hu, hvr⟩
      | i + 1 =>
        exact k2 i cs p (by simpa using hcs) (by simpa using hpp)
    · obtain ⟨hA, hb⟩ := hs 0 _ rfl
      rw [Nat.add_zero] at hA hb
      have hr := h3 s (b + 1) fun i cs h => by
        have := hs (i + 1) cs (by simpa using h)
        rw [show b + 1 + i = b + (i + 1) by omega]; exact this
      have hlen : (avs (b + 1)).length = len := by rw [← hr.length, hll ha, hv]
      exact LR.lst (s := s) (ex := false) (sz := 1) (n := len) (cs := lvs) (o := 0) (cap := cap) (g := 0) hA hb (by show 0 + len * 1 ≤ (avs (b + 1)).length; omega) (by
        show LRs s lvs ((((avs (b + 1)).drop 0)).take (len * 1))
        rw [List.drop_zero, List.take_of_length_le (by omega)]; exact hr) hpure hl (.inl rfl) (fun h => by cases h)

/-- A list of lists of numbers among the arguments. -/
theorem argOk_rows {H : Type} {enc : TypeId × Value → H} {P : Program} {w : World} {base fuel : Nat} {held : Bool} {t e q : TypeId} {v : Value} {x : DataW H × List MemPlace} (ht : P.underlying t = some (.slice e)) (he : P.underlying e = some (.slice q)) (hq : P.underlying q = some (.int .i64))
    (ce : P.cellsOf e = 1) (cq : P.cellsOf q = 1) (h : DataW.trod enc P w base (fun _ => true) held fuel t [v] = some x) :
    ∃ (nl : Bool) (rs : List (Bool × List Int)), (nl = true → rs = []) ∧ (∀ r ∈ rs, r.1 = true → r.2 = []) ∧ ArgOk w v (.lst nl false 1 rs.length (rs.map fun r => IL r.1 false 1 r.2)) := by
  rcases open_int_rows ht he hq ce cq h with ⟨h1, _⟩ | ⟨a, len, cap, A, L, C, Z, h1, _, hl, _, _, hx⟩
  · cases h1
    exact ⟨true, [], fun _ => rfl, by simp, argOk_nil (cs := []) false 1⟩
  · cases h1
    have row : ∀ r, r < cap → ∃ p : Bool × List Int, (p.1 = true → p.2 = []) ∧ ArgOk w (.slice (A r) (L r) (C r)) (IL p.1 false 1 p.2) := by
      intro r hr
      obtain ⟨_, k2, _, k4, _, k6, k7⟩ := hx r hr
      cases hA : A r with
      | none =>
        have hC := k6 hA
        have hL : L r = 0 := by omega
        rw [hC, hL]
        exact ⟨(true, []), fun _ => rfl, argOk_nil (cs := []) false 1⟩
      | some a' =>
        obtain ⟨_, k8⟩ := k7 a' hA
        exact ⟨(false, (Z r).take (L r)), (fun h => by cases h), argOk_slice k2 k4 fun i hi => k8 i (by omega)⟩
    have all : ∀ n, n ≤ cap → ∀ k, k + n ≤ cap → ∃ rs : List (Bool × List Int), rs.length = n ∧ (∀ r ∈ rs, r.1 = true → r.2 = []) ∧ ArgsOk w ((List.range' k n).map fun r => .slice (A r) (L r) (C r)) (rs.map fun r => IL r.1 false 1 r.2) := by
      intro n
      induction n with
      | zero => intro _ k _; exact ⟨[], rfl, by simp, .nil⟩
      | succ n ih =>
        intro hn k hk
        obtain ⟨rs, i1, i2, i3⟩ := ih (by omega) (k + 1) (by omega)
        obtain ⟨p, p1, p2⟩ := row k (by omega)
        refine ⟨p :: rs, by simp [i1], ?_, by rw [List.range'_succ]; exact .cons p2 i3⟩
        intro r hr
        rcases List.mem_cons.1 hr with rfl | hr
        · exact p1
        · exact i2 r hr
    obtain ⟨rs, i1, i2, i3⟩ := all len hl 0 (by omega)
    refine ⟨false, rs, (fun h => by cases h), i2, ?_⟩
    rw [i1]
    refine argOk_sliceOf hl (by simp) ?_ i3 ?_
    · by_cases h0 : cap = 0
      · exact .inl h0
      · obtain ⟨k1, _⟩ := hx 0 (by omega)
        obtain ⟨bk, off, spot⟩ := a
        have hspot : spot = none := by simpa [Addr.add] using World.cell?_spot k1
        subst hspot
        refine .inr ⟨bk, off, rfl, fun j u hu => ?_⟩
        rw [List.getElem?_map] at hu
        obtain ⟨r, hr, rfl⟩ := Option.map_eq_some_iff.1 hu
        have hj := (List.getElem?_eq_some_iff.1 hr).1
        simp at hj
        rw [List.getElem?_range' hj] at hr
        have hr : j = r := by simpa using hr
        subst hr
        have := (hx j (by omega)).1
        rw [Go.WideShapes.add_plain] at this
        exact this
    · clear i1 i2 i3
      induction rs with
      | nil => rfl
      | cons a r ih => simp [LV.pures, LV.pure, ih]
end Go.Am

