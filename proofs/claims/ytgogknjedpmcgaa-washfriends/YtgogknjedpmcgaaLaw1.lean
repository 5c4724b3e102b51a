import Derived.Test.YtgogknjedpmcgaaLm10
import Derived.Test.YtgogknjedpmcgaaAm17
import Derived.Below
import Derived.ChangeSlices
import Derived.Deep.Matrix
import Derived.OpenShut
import Derived.Carry
/-
  THE JOIN: arguments that came in, as the list machine's lists; what the list machine's answer says of the model's call.
-/
set_option linter.unusedVariables false
namespace Go.Am
open Go.RowKit

def Placed (ρ : PM) (b : Nat) (ps : List Place) : Prop := ∀ (i : Nat) (p : Place), ps[i]? = some p → ρ (b + i) = some p
def Shows (s : Sit) (b : Nat) (bl : List (List AV)) : Prop := ∀ (i : Nat) (cs : List AV), bl[i]? = some cs → s.A (b + i) ∧ s.am.look (b + i) = some ⟨cs, false⟩

/-- An argument that reads as a value of the list machine. -/
def ArgOk (w : World) (v : Value) (lv : LV) : Prop :=
  ∃ (bl : Nat → List (List AV)) (ps : List Place) (av : Nat → AV), (∀ b, (bl b).length = ps.length) ∧
    (∀ (ρ : PM) (b : Nat), Placed ρ b ps → VR ρ (av b) v ∧ ∀ (i : Nat) (cs : List AV) (p : Place), (bl b)[i]? = some cs → ps[i]? = some p → CellsAt ρ w cs p) ∧
    (∀ (s : Sit) (b : Nat), Shows s b (bl b) → LR s lv (av b))
inductive ArgsOk (w : World) : List Value → List LV → Prop
  | nil : ArgsOk w [] []
  | cons {v : Value} {lv : LV} {vs : List Value} {lvs : List LV} (h : ArgOk w v lv) (hr : ArgsOk w vs lvs) : ArgsOk w (v :: vs) (lv :: lvs)

theorem append_get {α : Type} (a b : List α) (i : Nat) (x : α) (h : (a ++ b)[i]? = some x) : (i < a.length ∧ a[i]? = some x) ∨ (a.length ≤ i ∧ b[i - a.length]? = some x) := by
  by_cases hi : i < a.length
  · rw [List.getElem?_append_left hi] at h; exact .inl ⟨hi, h⟩
  · rw [List.getElem?_append_right (by omega)] at h; exact .inr ⟨by omega, h⟩

theorem args_all {w : World} : ∀ {vs : List Value} {lvs : List LV}, ArgsOk w vs lvs → ∃ (bl : Nat → List (List AV)) (ps : List Place) (avs : Nat → List AV), (∀ b, (bl b).length = ps.length) ∧
    (∀ (ρ : PM) (b : Nat), Placed ρ b ps → VRs ρ (avs b) vs ∧ ∀ (i : Nat) (cs : List AV) (p : Place), (bl b)[i]? = some cs → ps[i]? = some p → CellsAt ρ w cs p) ∧
    (∀ (s : Sit) (b : Nat), Shows s b (bl b) → LRs s lvs (avs b))
  | _, _, .nil => ⟨fun _ => [], [], fun _ => [], fun _ => rfl, fun ρ b _ => ⟨.nil, fun i cs p h => by simp at h⟩, fun s b _ => .nil⟩
  | _, _, .cons h hr => by
    obtain ⟨bl1, ps1, av1, a1, a2, a3⟩ := h
    obtain ⟨bl2, ps2, av2, b1, b2, b3⟩ := args_all hr
    refine ⟨fun b => bl1 b ++ bl2 (b + ps1.length), ps1 ++ ps2, fun b => av1 b :: av2 (b + ps1.length), fun b => by simp [a1, b1], fun ρ b hp => ?_, fun s b hs => ?_⟩
    · have hp1 : Placed ρ b ps1 := fun i p h => hp i p (by rw [List.getElem?_append_left (List.getElem?_eq_some_iff.1 h).1]; exact h)
      have hp2 : Placed ρ (b + ps1.length) ps2 := fun i p h => by
        have := hp (ps1.length + i) p (by rw [List.getElem?_append_right (by omega)]; simpa using h)
        rw [Nat.add_assoc]; exact this
      obtain ⟨c1, c2⟩ := a2 ρ b hp1
      obtain ⟨d1, d2⟩ := b2 ρ _ hp2
      refine ⟨.cons c1 d1, fun i cs p hcs hpp => ?_⟩
      rcases append_get _ _ _ _ hcs with ⟨e1, e2⟩ | ⟨e1, e2⟩
      · rw [a1] at e1
        rw [List.getElem?_append_left e1] at hpp
        exact c2 i cs p e2 hpp
      · rw [a1] at e1 e2
        rw [List.getElem?_append_right e1] at hpp
        exact d2 _ cs p e2 hpp
    · refine .cons (a3 s b fun i cs h => hs i cs (by rw [List.getElem?_append_left (List.getElem?_eq_some_iff.1 h).1]; exact h)) (b3 s _ fun i cs h => ?_)
      have := hs (ps1.length + i) cs (by rw [List.getElem?_append_right (by rw [a1]; omega)]; rw [a1]; simpa using h)
      rw [Nat.add_assoc]; exact this

/-- WHAT A LAW's WALK ASKS OF THE LIST MACHINE. -/
theorem law_list {P : Program} {C : Prog} {LP : LProg} (hC : ProgOk C P) (hmix : P.follows .mixedOrders = true) (hL : ProgL LP C) {f : Nat} {lvs : List LV} {md : Mode} {m' : LMem} (h : clF LP f lvs [] = some (md, .bool true, m')) (hG : P.globals.size = 0)
    {w : World} {cargs : Array Value} (ha : ArgsOk w cargs.toList lvs) : Calls P f cargs w fun e w' => e = .returned (.bool true) ∧ Below w.heap.size w w' := by
  obtain ⟨bl, ps, avs, h1, h2, h3⟩ := args_all ha
  obtain ⟨n, hn⟩ := clF_some.1 h
  have hs : Shows ⟨[], memOf (bl 0), fun _ => 0, fun b => b < (bl 0).length⟩ 0 (bl 0) := fun i cs hi => by
    rw [Nat.zero_add]
    exact ⟨(List.getElem?_eq_some_iff.1 hi).1, by show (memOf (bl 0)).look i = _; rw [memOf_look, hi]; rfl⟩
  have hrel : Rel2 ⟨[], memOf (bl 0), fun _ => 0, fun b => b < (bl 0).length⟩ := by
    refine ⟨fun i b hb => by simp at hb, fun i j b b' hb => by simp at hb, fun b hb => ?_, fun b ab hb => ?_⟩
    · have hb : b < (bl 0).length := hb
      exact ⟨⟨(bl 0)[b], false⟩, by show (memOf (bl 0)).look b = _; rw [memOf_look, List.getElem?_eq_getElem hb]; rfl⟩
    · have hb : (memOf (bl 0)).look b = some ab := hb
      show b < (memOf (bl 0)).next
      rw [memOf_next]
      rw [memOf_look] at hb
      obtain ⟨x, hx, _⟩ := Option.map_eq_some_iff.1 hb
      exact (List.getElem?_eq_some_iff.1 hx).1
  obtain ⟨av, am', h4, t, _, _, _, _, h5, _⟩ := callL_sound hL n f lvs [] md (.bool true) m' hn _ (avs 0) rfl hrel (h3 _ 0 hs)
  cases h5
  have hplaced : Placed (placesOf ps) 0 ps := fun i p hp => by rw [Nat.zero_add]; exact hp
  obtain ⟨h6, h7⟩ := h2 (placesOf ps) 0 hplaced
  exact law_calls hC hmix h4 (h1 0) (fun i cs p hcs hp => h7 i cs p hcs hp) h6 (glob_none hG _)
end Go.Am

/-
  THE JOIN, 2: lists of numbers, and lists of lists, that came in.
-/
set_option linter.unusedVariables false
namespace Go.Am
open Go.ChangeShapes Go.RowKit Go.Deep

theorem take_getD (zs : List Int) (n j : Nat) (h : j < (zs.take n).length) : (zs.take n)[j] = zs.getD j 0 := by
  simp only [List.getElem_take, List.getD_eq_getElem?_getD]
  rw [List.getElem?_eq_getElem (by simp at h; omega)]
  rfl

/-- A list of numbers at an address. -/
theorem argOk_slice {w : World} {a : Addr} {len cap : Nat} {zs : List Int} (hl : len ≤ cap) (hz : zs.length = cap) (hc : ∀ i, i < zs.length → w.cell? (a.add i) = some (.int .i64 (zs.getD i 0))) :
    ArgOk w (.slice (some a) len cap) (IL false false 1 (zs.take len)) := by
  have hlen : (zs.take len).length = len := by rw [List.length_take]; omega
  by_cases h0 : cap = 0
  · -- no room at all
    have : len = 0 := by omega
    subst h0 this
    refine ⟨fun _ => [[]], [⟨0, 0, 0⟩], fun b => .slice b 0 0 0 0, fun _ => rfl, fun ρ b hp => ⟨.last, fun i cs p hcs hpp => ?_⟩, fun s b hs => ?_⟩
    · match i with
      | 0 => simp at hcs; subst hcs; exact ⟨fun j c h => by simp at h⟩
      | i + 1 => simp at hcs
    · obtain ⟨hA, hb⟩ := hs 0 [] rfl
      exact .lst (blk := ⟨[], false⟩) hA hb (by simp) .nil rfl (Nat.le_refl _) (.inl rfl) (fun h => by cases h)
  · obtain ⟨bk, off, rfl, hat⟩ := ints_at hc (by omega)
    have hget : ∀ j (h : j < (zs.take len).length), (zs.take len)[j] = zs.getD j 0 := fun j h => take_getD zs len j h
    generalize zs.take len = l at hlen hget
    refine ⟨fun _ => [l.map (.int .i64)], [⟨bk, off, 0⟩], fun b => .slice b 0 len cap 0, fun _ => rfl, fun ρ b hp => ?_, fun s b hs => ?_⟩
    · have h1 : ρ b = some ⟨bk, off, 0⟩ := by simpa using hp 0 _ rfl
      refine ⟨VR.slice (o := 0) h1, fun i cs p hcs hpp => ?_⟩
      match i with
      | 0 =>
        simp at hcs hpp; subst hcs hpp
        refine ⟨fun j c h => ?_⟩
        rw [List.getElem?_map] at h
        obtain ⟨x, hx, rfl⟩ := Option.map_eq_some_iff.1 h
        obtain ⟨hj, rfl⟩ := List.getElem?_eq_some_iff.1 hx
        exact ⟨_, hat j (by omega), by rw [hget]; exact .int _ _⟩
      | i + 1 => simp at hcs
    · obtain ⟨hA, hb⟩ := hs 0 _ rfl
      rw [Nat.add_zero] at hA hb
      subst hlen
      have e : ((l.map (AV.int .i64)).drop 0).take (l.length * 1) = l.map (AV.int .i64) := by rw [List.drop_zero, List.take_of_length_le (by simp)]
      exact LR.lst (s := s) (ex := false) (sz := 1) (n := l.length) (cs := l.map (LV.int .i64)) (o := 0) (cap := cap) (g := 0) hA hb (by simp) (by
        rw [e]; exact LRs.map _ fun x _ => .int _ _) (pures_int _ _) hl (.inl rfl) (fun h => by cases h)
theorem argOk_nil {w : World} {cs : List LV} (ex : Bool) (sz : Nat) : ArgOk w (.slice none 0 0) (.lst true ex sz 0 []) :=
  ⟨fun _ => [], [], fun _ => .nilslice, fun _ => rfl, fun ρ b _ => ⟨.nilslice, fun i cs p h => by simp at h⟩, fun s b _ => .nil⟩

/-- A list of numbers among the arguments. -/
theorem argOk_ints {H : Type} {enc : TypeId × Value → H} {P : Program} {w : World} {base fuel : Nat} {held : Bool} {t e : TypeId} {v : Value} {x : DataW H × List MemPlace} (ht : P.underlying t = some (.slice e)) (he : P.underlying e = some (.int .i64)) (hc : P.cellsOf e = 1)
    (h : DataW.trod enc P w base (fun _ => true) held fuel t [v] = some x) : ∃ nl l, (nl = true → l = []) ∧ ArgOk w v (IL nl false 1 l) := by
  rcases Go.ChangeShapes.open_ints ht he hc h with ⟨h1, _⟩ | ⟨a, len, cap, zs, h1, _, h3, _, h5, _, h7, _⟩
  · cases h1
    exact ⟨true, [], fun _ => rfl, argOk_nil (cs := []) false 1⟩
  · cases h1
    exact ⟨false, zs.take len, (fun h => by cases h), argOk_slice h3 (by simpa using h5) h7⟩
end Go.Am

/-
  THE JOIN, 3: arguments read behind the call as before it.
-/
set_option linter.unusedVariables false
namespace Go.Am
open Go.RowKit
theorem trodAll_below {H : Type} {enc : TypeId × Value → H} {P : Program} {W W' : World} (hl : laidOutB P = true) (hb : Below W.heap.size W W') : ∀ {ts : List TypeId} {vs : List Value} {ds : List (DataW H)} {ps : List MemPlace}, (ts.all fun t => P.readableRec t && decide (t < P.types.size)) = true →
    DataW.TrodAll enc P W 0 (fun _ => true) true ts vs ds ps → (∀ x ∈ ps, x.block < W.heap.size) → DataW.TrodAll enc P W' 0 (fun b => decide (b < W.heap.size)) true ts vs ds ps
  | [], [], [], _, _, h, _ => h
  | t :: ts, v :: vs, d :: ds, ps, hr, ⟨p, q, h1, h2, e⟩, hlt => by
    simp only [List.all_cons, Bool.and_eq_true, decide_eq_true_eq] at hr
    subst e
    exact ⟨p, q, Below.trod hl hr.1.1 hr.1.2 h1 hb (fun x hx => hlt x (List.mem_append_left _ hx)), trodAll_below hl hb hr.2 h2 (fun x hx => hlt x (List.mem_append_right _ hx)), rfl⟩
end Go.Am


