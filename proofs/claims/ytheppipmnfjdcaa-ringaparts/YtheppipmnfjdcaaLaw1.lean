import Derived.Test.YtheppipmnfjdcaaLm10
import Derived.Test.YtheppipmnfjdcaaAm17
import Derived.Below
import Derived.ChangeSlices
import Derived.Deep.Matrix
import Derived.OpenShut
import Derived.ChangeArms
import Derived.Test.YtheppipmnfjdcaaRingC32
/-
  THE JOIN: arguments that came in, as the list machine's lists; what the list machine's answer says of the model's call.
-/
set_option linter.unusedVariables false
namespace Go.Am
variable [Glo]
open Go.RowKit

def Placed (ρ : PM) (b : Nat) (ps : List Place) : Prop := ∀ (i : Nat) (p : Place), ps[i]? = some p → ρ (b + i) = some p
def Shows (s : Sit) (b : Nat) (bl : List (List AV)) : Prop := ∀ (i : Nat) (cs : List AV), bl[i]? = some cs → s.A (b + i) ∧ s.am.look (b + i) = some ⟨cs, false⟩

/-- An argument that reads as a value of the list machine. -/
def ArgOk (w : World) (v : Value) (lv : LV) : Prop :=
  ∃ (bl : Nat → List (List AV)) (ps : List Place) (av : Nat → AV), (∀ b, (bl b).length = ps.length) ∧
    (∀ (ρ : PM) (b : Nat), Placed ρ b ps → VR ρ (av b) v ∧ ∀ (i : Nat) (cs : List AV) (p : Place), (bl b)[i]? = some cs → ps[i]? = some p → p.map = false ∧ CellsAt ρ w cs p) ∧
    (∀ (s : Sit) (b : Nat), Shows s b (bl b) → LR s lv (av b))
inductive ArgsOk (w : World) : List Value → List LV → Prop
  | nil : ArgsOk w [] []
  | cons {v : Value} {lv : LV} {vs : List Value} {lvs : List LV} (h : ArgOk w v lv) (hr : ArgsOk w vs lvs) : ArgsOk w (v :: vs) (lv :: lvs)

omit [Glo] in
theorem argOk_int (w : World) (k : IntKind) (n : Int) : ArgOk w (.int k n) (.int k n) := ⟨fun _ => [], [], fun _ => .int k n, fun _ => rfl, fun ρ b _ => ⟨.int k n, fun i cs p h => by simp at h⟩, fun s b _ => .int k n⟩
omit [Glo] in
theorem append_get {α : Type} (a b : List α) (i : Nat) (x : α) (h : (a ++ b)[i]? = some x) : (i < a.length ∧ a[i]? = some x) ∨ (a.length ≤ i ∧ b[i - a.length]? = some x) := by
  by_cases hi : i < a.length
  · rw [List.getElem?_append_left hi] at h; exact .inl ⟨hi, h⟩
  · rw [List.getElem?_append_right (by omega)] at h; exact .inr ⟨by omega, h⟩

omit [Glo] in
theorem args_all {w : World} : ∀ {vs : List Value} {lvs : List LV}, ArgsOk w vs lvs → ∃ (bl : Nat → List (List AV)) (ps : List Place) (avs : Nat → List AV), (∀ b, (bl b).length = ps.length) ∧
    (∀ (ρ : PM) (b : Nat), Placed ρ b ps → VRs ρ (avs b) vs ∧ ∀ (i : Nat) (cs : List AV) (p : Place), (bl b)[i]? = some cs → ps[i]? = some p → p.map = false ∧ CellsAt ρ w cs p) ∧
    (∀ (s : Sit) (b : Nat), Shows s b (bl b) → LRs s lvs (avs b))
  | _, _, .nil => ⟨fun _ => [], [], fun _ => [], fun _ => rfl, fun ρ b _ => ⟨.nil, fun i cs p h => by simp at h⟩, fun s b _ => .nil⟩
  | _, _, .cons h hr => by
    obtain ⟨bl1, ps1, av1, a1, a2, a3⟩ := h
    obtain ⟨bl2, ps2, av2, b1, b2, b3⟩ := args_all hr
    refine ⟨fun b => bl1 b ++ bl2 (b + ps1.length), ps1 ++ ps2, fun b => av1 b :: av2 (b + ps1.length), fun b => by simp [a1, b1], fun ρ b hp => ?_, fun s b hs => ?_⟩
    · have hp1 : Placed ρ b ps1 := fun i p h => hp i p (by rw [List.getElem?_append_left (List.getElem?_eq_some_iff.1 h).1]; exact h)
      have hp2 : Placed ρ (b + ps1.length) ps2 := fun i p h => by
        have := hp (ps1.length + i) p (by rw [List.getElem?_append_right (by omega)]; simpa using h)
        rw [Nat.add_assoc]; exact this
      obtain ⟨c1, c2⟩ := a2 ρ b hp1
      obtain ⟨d1, d2⟩ := b2 ρ _ hp2
      refine ⟨.cons c1 d1, fun i cs p hcs hpp => ?_⟩
      rcases append_get _ _ _ _ hcs with ⟨e1, e2⟩ | ⟨e1, e2⟩
      · rw [a1] at e1
        rw [List.getElem?_append_left e1] at hpp
        exact c2 i cs p e2 hpp
      · rw [a1] at e1 e2
        rw [List.getElem?_append_right e1] at hpp
        exact d2 _ cs p e2 hpp
    · refine .cons (a3 s b fun i cs h => hs i cs (by rw [List.getElem?_append_left (List.getElem?_eq_some_iff.1 h).1]; exact h)) (b3 s _ fun i cs h => ?_)
      have := hs (ps1.length + i) cs (by rw [List.getElem?_append_right (by rw [a1]; omega)]; rw [a1]; simpa using h)
      rw [Nat.add_assoc]; exact this

/-- Where the package-level variables lie. -/
def gPlaces (n : Nat) : List Place := (List.range n).map fun g => ⟨g, 0, 0, false⟩
omit [Glo] in
theorem gPlaces_get {n g : Nat} {p : Place} (h : (gPlaces n)[g]? = some p) : p = ⟨g, 0, 0, false⟩ := by
  unfold gPlaces at h
  rw [List.getElem?_map] at h
  obtain ⟨x, hx, rfl⟩ := Option.map_eq_some_iff.1 h
  have hg := (List.getElem?_eq_some_iff.1 hx).1
  simp at hg
  rw [List.getElem?_range hg] at hx
  cases hx; rfl

/-- WHAT A LAW's WALK ASKS OF THE LIST MACHINE. -/
theorem law_glob {P : Program} {C : Prog} {LP : LProg} (hC : ProgOk C P) (hmix : P.follows .mixedOrders = true) (hL : ProgL LP C) {f : Nat} {lvs : List LV} {md : Mode} {m' : LMem} (h : clF LP f lvs [] = some (md, .bool true, m'))
    {w : World} {cargs : Array Value} (ha : ArgsOk w cargs.toList lvs) (gb : List (List AV)) (hgb : gb.length = P.globals.size) (hT : ∀ g l, Glo.tab g = some l → gb[g]? = some l) (hcell : ∀ (ρ : PM) (g : Nat) (cs : List AV), gb[g]? = some cs → CellsAt ρ w cs ⟨g, 0, 0, false⟩) :
    Calls P f cargs w fun e w' => e = .returned (.bool true) ∧ Below w.heap.size w w' := by
  obtain ⟨bl, ps, avs, h1, h2, h3⟩ := args_all ha
  obtain ⟨n, hn⟩ := clF_some.1 h
  generalize hN : gb.length = N at hgb
  generalize hall : gb ++ bl N = all
  have hget : ∀ (i : Nat) (cs : List AV), (bl N)[i]? = some cs → all[N + i]? = some cs := fun i cs hi => by
    rw [← hall, List.getElem?_append_right (by omega), hN, Nat.add_sub_cancel_left]; exact hi
  have hs : Shows ⟨[], memOf all, fun _ => 0, fun b => b < all.length⟩ N (bl N) := fun i cs hi =>
    ⟨(List.getElem?_eq_some_iff.1 (hget i cs hi)).1, by show (memOf all).look (N + i) = _; rw [memOf_look, hget i cs hi]; rfl⟩
  have hrel : Rel2 ⟨[], memOf all, fun _ => 0, fun b => b < all.length⟩ := by
    refine ⟨fun i b hb => by simp at hb, fun i j b b' hb => by simp at hb, fun b hb => ?_, fun b ab hb => ?_, fun g l hg => ?_⟩
    · have hb : b < all.length := hb
      exact ⟨⟨all[b], false⟩, by show (memOf all).look b = _; rw [memOf_look, List.getElem?_eq_getElem hb]; rfl⟩
    · have hb : (memOf all).look b = some ab := hb
      show b < (memOf all).next
      rw [memOf_next]
      rw [memOf_look] at hb
      obtain ⟨x, hx, _⟩ := Option.map_eq_some_iff.1 hb
      exact (List.getElem?_eq_some_iff.1 hx).1
    · have e : all[g]? = some l := by
        have := hT g l hg
        rw [← hall, List.getElem?_append_left (List.getElem?_eq_some_iff.1 this).1]; exact this
      exact ⟨(List.getElem?_eq_some_iff.1 e).1, by show (memOf all).look g = _; rw [memOf_look, e]; rfl⟩
  obtain ⟨av, am', h4, t, _, _, _, _, h5, _⟩ := callL_sound hL n f lvs [] md (.bool true) m' hn _ (avs N) rfl hrel (h3 _ N hs)
  cases h5
  generalize hpl : gPlaces N ++ ps = pl
  have hgl : (gPlaces N).length = N := by simp [gPlaces]
  have hplaced : Placed (placesOf pl) N ps := fun i p hp => by
    show pl[N + i]? = some p
    rw [← hpl, List.getElem?_append_right (by omega), hgl, Nat.add_sub_cancel_left]; exact hp
  obtain ⟨h6, h7⟩ := h2 (placesOf pl) N hplaced
  refine law_calls hC hmix (l := all) (ps := pl) h4 (by rw [← hall, ← hpl, List.length_append, List.length_append, h1, hgl, hN]) (fun i cs p hcs hp => ?_) h6 fun g hg => ?_
  · rw [← hall] at hcs
    rw [← hpl] at hp
    rcases append_get _ _ _ _ hcs with ⟨e1, e2⟩ | ⟨e1, e2⟩
    · rw [List.getElem?_append_left (by omega)] at hp
      rw [gPlaces_get hp]
      exact ⟨rfl, hcell _ i cs e2⟩
    · rw [List.getElem?_append_right (by omega), hgl] at hp
      rw [hN] at e2
      exact h7 _ cs p e2 hp
  · have hg : g < N := by omega
    refine ⟨⟨g, 0, 0, false⟩, ?_, rfl, rfl, rfl⟩
    show pl[g]? = _
    rw [← hpl, List.getElem?_append_left (by omega)]
    simp [gPlaces, hg]

theorem law_list {P : Program} {C : Prog} {LP : LProg} (hC : ProgOk C P) (hmix : P.follows .mixedOrders = true) (hL : ProgL LP C) {f : Nat} {lvs : List LV} {md : Mode} {m' : LMem} (h : clF LP f lvs [] = some (md, .bool true, m')) (hG : P.globals.size = 0) (hT : ∀ g, Glo.tab g = none)
    {w : World} {cargs : Array Value} (ha : ArgsOk w cargs.toList lvs) : Calls P f cargs w fun e w' => e = .returned (.bool true) ∧ Below w.heap.size w w' :=
  law_glob hC hmix hL h ha [] (by simp [hG]) (fun g l hg => by rw [hT g] at hg; cases hg) (fun ρ g cs hg => by simp at hg)
end Go.Am

/-
  THE JOIN, 2: lists of numbers, and lists of lists, that came in.
-/
set_option linter.unusedVariables false
namespace Go.Am
variable [Glo]
open Go.ChangeShapes Go.RowKit Go.Deep

omit [Glo] in
theorem take_getD (zs : List Int) (n j : Nat) (h : j < (zs.take n).length) : (zs.take n)[j] = zs.getD j 0 := by
  simp only [List.getElem_take, List.getD_eq_getElem?_getD]
  rw [List.getElem?_eq_getElem (by simp at h; omega)]
  rfl

omit [Glo] in
theorem argOk_nil {w : World} {cs : List LV} (ex : Bool) (sz : Nat) : ArgOk w (.slice none 0 0) (.lst true ex sz 0 []) :=
  ⟨fun _ => [], [], fun _ => .nilslice, fun _ => rfl, fun ρ b _ => ⟨.nilslice, fun i cs p h => by simp at h⟩, fun s b _ => .nil⟩

end Go.Am

/-
  THE JOIN, 6: lists of pairs of numbers that came in.
-/
set_option linter.unusedVariables false
namespace Go.Am
variable [Glo]
open Go.ChangeShapes Go.RowKit Go.Deep
section
variable {H : Type} {enc : TypeId × Value → H} {P : Program} {w : World} {base fuel : Nat} {sp : Nat → Bool} {held : Bool}

omit [Glo] in
theorem argOk_flat {w : World} {a : Addr} {len cap sz : Nat} {zs : List Int} (hl : len ≤ cap) (hsz : 0 < sz) (hz : zs.length = cap * sz) (hc : ∀ i, i < zs.length → w.cell? (a.add i) = some (.int .i64 (zs.getD i 0))) :
    ArgOk w (.slice (some a) len cap) (.lst false false sz len ((zs.take (len * sz)).map (LV.int .i64))) := by
  have hle : len * sz ≤ cap * sz := Nat.mul_le_mul_right _ hl
  have hlen : (zs.take (len * sz)).length = len * sz := by rw [List.length_take]; omega
  by_cases h0 : cap = 0
  · have : len = 0 := by omega
    subst h0 this
    have e : (zs.take (0 * sz)).map (LV.int .i64) = [] := by simp
    rw [e]
    refine ⟨fun _ => [[]], [⟨0, 0, 0, false⟩], fun b => .slice b 0 0 0 0, fun _ => rfl, fun ρ b hp => ⟨.last, fun i cs p hcs hpp => ?_⟩, fun s b hs => ?_⟩
    · match i with
      | 0 => simp at hcs hpp; subst hcs hpp; exact ⟨rfl, ⟨fun j c h => by simp at h⟩⟩
      | i + 1 => simp at hcs
    · obtain ⟨hA, hb⟩ := hs 0 [] rfl
      exact .lst (blk := ⟨[], false⟩) hA hb (by simp) (by simpa using LRs.nil) rfl (Nat.le_refl _) (.inl rfl) (fun h => by cases h)
  · have hpos : 0 < cap * sz := Nat.mul_pos (by omega) hsz
    obtain ⟨bk, off, rfl, hat⟩ := ints_at hc (by omega)
    have hget : ∀ j (h : j < (zs.take (len * sz)).length), (zs.take (len * sz))[j] = zs.getD j 0 := fun j h => take_getD zs (len * sz) j h
    generalize zs.take (len * sz) = l at hlen hget
    refine ⟨fun _ => [l.map (.int .i64)], [⟨bk, off, 0, false⟩], fun b => .slice b 0 len cap 0, fun _ => rfl, fun ρ b hp => ?_, fun s b hs => ?_⟩
    · have h1 : ρ b = some ⟨bk, off, 0, false⟩ := by simpa using hp 0 _ rfl
      refine ⟨VR.slice (o := 0) h1 rfl, fun i cs p hcs hpp => ?_⟩
      match i with
      | 0 =>
        simp at hcs hpp; subst hcs hpp
        refine ⟨rfl, ⟨fun j c h => ?_⟩⟩
        rw [List.getElem?_map] at h
        obtain ⟨x, hx, rfl⟩ := Option.map_eq_some_iff.1 h
        obtain ⟨hj, rfl⟩ := List.getElem?_eq_some_iff.1 hx
        exact ⟨_, hat j (by omega), by rw [hget]; exact .int _ _⟩
      | i + 1 => simp at hcs
    · obtain ⟨hA, hb⟩ := hs 0 _ rfl
      rw [Nat.add_zero] at hA hb
      have e : ((l.map (AV.int .i64)).drop 0).take (len * sz) = l.map (AV.int .i64) := by rw [List.drop_zero, List.take_of_length_le (by simp; omega)]
      exact LR.lst (s := s) (ex := false) (sz := sz) (n := len) (cs := l.map (LV.int .i64)) (o := 0) (cap := cap) (g := 0) hA hb (by simp; omega) (by
        rw [e]; exact LRs.map _ fun x _ => .int _ _) (pures_int _ _) hl (.inl rfl) (fun h => by cases h)
omit [Glo] in
theorem pair_of {e q : TypeId} {cs : List Value} {x : DataW H × List MemPlace} (he : P.underlying e = some (.array 2 q)) (hq : P.underlying q = some (.int .i64)) (ce : P.cellsOf e = 2) (cq : P.cellsOf q = 1)
    (h : DataW.trod enc P w base sp held fuel e cs = some x) : ∃ a b : Int, cs = [.int .i64 a, .int .i64 b] := by
  obtain ⟨xs, m', _, _, hl, hxl, hf⟩ := DataW.trod_array he h
  rw [ce] at hl
  rw [cq] at hf
  have one : ∀ i, i < 2 → ∃ a : Int, (cs.drop (i * 1)).take 1 = [.int .i64 a] := by
    intro i hi
    have h4 := hf i hi
    obtain ⟨y, hy⟩ : ∃ y, xs[i]? = some y := ⟨xs[i]'(by omega), List.getElem?_eq_getElem (by omega)⟩
    rw [hy] at h4
    obtain ⟨a, h5, _, _⟩ := DataW.trod_int hq h4
    exact ⟨a, h5⟩
  obtain ⟨a, ha⟩ := one 0 (by omega)
  obtain ⟨b, hb⟩ := one 1 (by omega)
  match cs, hl with
  | [u, v], _ =>
    simp at ha hb
    exact ⟨a, b, by rw [ha, hb]⟩
/-- A list of pairs of numbers, in one row. -/
def flatP (l : List (Int × Int)) : List Int := l.flatMap fun p => [p.1, p.2]
omit [Glo] in
theorem flatP_len (l : List (Int × Int)) : (flatP l).length = l.length * 2 := by
  induction l with
  | nil => rfl
  | cons a r ih =>
    have e : flatP (a :: r) = a.1 :: a.2 :: flatP r := rfl
    rw [e, List.length_cons, List.length_cons, List.length_cons, ih]; omega
omit [Glo] in
theorem flatP_take : ∀ (l : List (Int × Int)) (n : Nat), (flatP l).take (n * 2) = flatP (l.take n)
  | [], n => by simp [flatP]
  | a :: r, 0 => by simp [flatP]
  | a :: r, n + 1 => by
    have e : flatP (a :: r) = a.1 :: a.2 :: flatP r := rfl
    have e2 : flatP (a :: r.take n) = a.1 :: a.2 :: flatP (r.take n) := rfl
    rw [e, show (n + 1) * 2 = n * 2 + 1 + 1 by omega, List.take_succ_cons, List.take_succ_cons, flatP_take r n, List.take_succ_cons, e2]
omit [Glo] in
/-- A list of pairs of numbers among the arguments. -/
theorem argOk_pairs {t e q : TypeId} {v : Value} {x : DataW H × List MemPlace} (ht : P.underlying t = some (.slice e)) (he : P.underlying e = some (.array 2 q)) (hq : P.underlying q = some (.int .i64)) (ce : P.cellsOf e = 2) (cq : P.cellsOf q = 1)
    (h : DataW.trod enc P w base (fun _ => true) held fuel t [v] = some x) : ∃ (nl : Bool) (l : List (Int × Int)), (nl = true → l = []) ∧ ArgOk w v (.lst nl false 2 l.length ((flatP l).map (LV.int .i64))) := by
  rcases DataW.trod_slice ht h with ⟨h0, _⟩ | ⟨a, len, cap, elems, rest, n, _, h1, _, hb, hl, _, hlen, hel, hsp, _⟩
  · cases h0
    exact ⟨true, [], fun _ => rfl, argOk_nil (cs := []) false 2⟩
  · cases h1
    obtain ⟨hrl, hr⟩ := hsp rfl
    have each : ∀ i, i < cap → ∃ p : Int × Int, w.cell? (a.add (i * 2)) = some (.int .i64 p.1) ∧ w.cell? (a.add (i * 2 + 1)) = some (.int .i64 p.2) := by
      intro i hi
      have : ∃ y, (w.cells? base (a.add (i * P.cellsOf e)) (P.cellsOf e)).bind (DataW.trod enc P w base (fun _ => true) held n e) = some y := by
        by_cases c : i < len
        · exact ⟨elems[i]'(by omega), by rw [hel i c, List.getElem?_eq_getElem (by omega)]⟩
        · have := hr (i - len) (by omega)
          rw [show len + (i - len) = i by omega] at this
          exact ⟨rest[i - len]'(by omega), by rw [this, List.getElem?_eq_getElem (by omega)]⟩
      obtain ⟨y, hy⟩ := this
      rw [ce, Option.bind_eq_some_iff] at hy
      obtain ⟨cs, hcs, hy⟩ := hy
      obtain ⟨u, v, rfl⟩ := pair_of he hq ce cq hy
      obtain ⟨_, _, hat⟩ := World.cells?_some hcs
      refine ⟨(u, v), ?_, ?_⟩
      · exact hat 0 (by omega)
      · have := hat 1 (by omega)
        have e1 : (a.add (i * 2)).add 1 = a.add (i * 2 + 1) := by
          unfold Addr.add
          by_cases c : i = 0
          · subst c; simp
          · have c2 : ¬ i * 2 = 0 := by omega
            simp only [c2, if_false, show ¬ (1 = 0) by omega, show ¬ (i * 2 + 1 = 0) by omega]
            simp
        rw [e1] at this
        exact this
    have all : ∀ k, k ≤ cap → ∃ l : List (Int × Int), l.length = k ∧ ∀ i, i < k * 2 → w.cell? (a.add i) = some (.int .i64 ((flatP l).getD i 0)) := by
      intro k
      induction k with
      | zero => intro _; exact ⟨[], rfl, fun i hi => by omega⟩
      | succ k ih =>
        intro hk
        obtain ⟨l, h1, h2⟩ := ih (by omega)
        obtain ⟨p, p1, p2⟩ := each k (by omega)
        have hfl := flatP_len l
        have e : flatP (l ++ [p]) = flatP l ++ [p.1, p.2] := by simp [flatP]
        refine ⟨l ++ [p], by simp [h1], fun i hi => ?_⟩
        rw [e, List.getD_eq_getElem?_getD]
        by_cases c : i < k * 2
        · rw [List.getElem?_append_left (by omega), ← List.getD_eq_getElem?_getD]
          exact h2 i c
        · rw [List.getElem?_append_right (by omega), hfl, h1]
          by_cases c2 : i = k * 2
          · subst c2; simpa using p1
          · obtain rfl : i = k * 2 + 1 := by omega
            simpa using p2
    obtain ⟨l, h1, h2⟩ := all cap (Nat.le_refl _)
    refine ⟨false, l.take len, (fun h => by cases h), ?_⟩
    have := argOk_flat (w := w) (a := a) (zs := flatP l) hl (by omega : 0 < 2) (by rw [flatP_len, h1]) (fun i hi => h2 i (by rw [flatP_len, h1] at hi; exact hi))
    rw [flatP_take] at this
    rw [show (l.take len).length = len by rw [List.length_take]; omega]
    exact this
end
end Go.Am

/-
  What functions of chapter 04 compute, 12: the law RingOrders.
-/
set_option linter.unusedVariables false
set_option linter.unusedSimpArgs false
set_option maxRecDepth 10000
namespace Go.Am.Ring
open Go.Am.G

theorem pcI_flat : ∀ (l : List (Int × Int)), pcI l = (flatP l).map (LV.int .i64)
  | [] => rfl
  | a :: r => by
    have e1 : pcI (a :: r) = .int .i64 a.1 :: .int .i64 a.2 :: pcI r := rfl
    have e2 : flatP (a :: r) = a.1 :: a.2 :: flatP r := rfl
    rw [e1, e2, pcI_flat r]; rfl
end Go.Am.Ring


