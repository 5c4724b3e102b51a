import Derived.Test.YtheppipmnfjdcaaRingWorks
import Derived.Test.YtheppipmnfjdcaaRingC20
import Derived.Test.YtheppipmnfjdcaaLm16
import Derived.Test.YtheppipmnfjdcaaLm10
import Derived.Test.YtheppipmnfjdcaaAm17
import Derived.Below
import Derived.ChangeSlices
import Derived.Deep.Matrix
import Derived.OpenShut
import Derived.Carry
/-
  What functions of chapter 04 compute: the law RingKnown: small calls are run by the kernel, the others are what the contracts tell.
-/
set_option linter.unusedVariables false
set_option linter.unusedSimpArgs false
set_option maxRecDepth 100000
set_option maxHeartbeats 1000000
namespace Go.Am.Ring
open Go.Am.G
theorem krun0 : callL LP 3000 n_ring_Ring [.int .i64 2, .lst false false 2 4 [.int .i64 0, .int .i64 1, .int .i64 1, .int .i64 0, .int .i64 0, .int .i64 1, .int .i64 1, .int .i64 0]] [] = some (.P, .tup [.lst false false 1 2 [.int .i64 0, .int .i64 1], .int .i64 0], []) := by kernel_rfl
theorem kran0 (m : LMem) : clF LP n_ring_Ring [.int .i64 2, .lst false false 2 4 [.int .i64 0, .int .i64 1, .int .i64 1, .int .i64 0, .int .i64 0, .int .i64 1, .int .i64 1, .int .i64 0]] m = some (.P, .tup [.lst false false 1 2 [.int .i64 0, .int .i64 1], .int .i64 0], m) := call_ran lp_ring_Ring rfl rfl krun0 m
theorem krun1 : callL LP 3000 n_ring_Apart [.int .i64 4, .lst false false 2 5 [.int .i64 0, .int .i64 1, .int .i64 1, .int .i64 2, .int .i64 2, .int .i64 0, .int .i64 2, .int .i64 3, .int .i64 3, .int .i64 1]] [] = some (.P, .tup [.lst false false 1 1 [.lst false false 1 3 [.int .i64 0, .int .i64 1, .int .i64 2]], .int .i64 0], []) := by kernel_rfl
theorem kran1 (m : LMem) : clF LP n_ring_Apart [.int .i64 4, .lst false false 2 5 [.int .i64 0, .int .i64 1, .int .i64 1, .int .i64 2, .int .i64 2, .int .i64 0, .int .i64 2, .int .i64 3, .int .i64 3, .int .i64 1]] m = some (.P, .tup [.lst false false 1 1 [.lst false false 1 3 [.int .i64 0, .int .i64 1, .int .i64 2]], .int .i64 0], m) := call_ran lp_ring_Apart rfl rfl krun1 m
theorem krun2 : callL LP 3000 n_ring_Sure [.int .i64 2, .lst false false 2 4 [.int .i64 0, .int .i64 1, .int .i64 1, .int .i64 0, .int .i64 0, .int .i64 1, .int .i64 1, .int .i64 0]] [] = some (.P, .tup [.lst true true 0 0 [], .int .i64 0], []) := by kernel_rfl
theorem kran2 (m : LMem) : clF LP n_ring_Sure [.int .i64 2, .lst false false 2 4 [.int .i64 0, .int .i64 1, .int .i64 1, .int .i64 0, .int .i64 0, .int .i64 1, .int .i64 1, .int .i64 0]] m = some (.P, .tup [.lst true true 0 0 [], .int .i64 0], m) := call_ran lp_ring_Sure rfl rfl krun2 m
theorem krun3 : callL LP 3000 n_ring_Strike [.int .i64 3, .lst true true 0 0 []] [] = some (.P, .tup [.lst true true 0 0 [], .int .i64 0], []) := by kernel_rfl
theorem kran3 (m : LMem) : clF LP n_ring_Strike [.int .i64 3, .lst true true 0 0 []] m = some (.P, .tup [.lst true true 0 0 [], .int .i64 0], m) := call_ran lp_ring_Strike rfl rfl krun3 m
theorem kgreG : gre PG 2 2 0 = [0, 1] := by kernel_rfl
theorem kstrF : strL 4 PF = [1] := by kernel_rfl
theorem kw0 (m : LMem) : clF LP n_ring_Against [.int .i64 4, .lst false false 2 5 [.int .i64 0, .int .i64 1, .int .i64 1, .int .i64 2, .int .i64 2, .int .i64 0, .int .i64 2, .int .i64 3, .int .i64 3, .int .i64 1], .lst false true 1 4 [.int .i64 2, .int .i64 0, .int .i64 3, .int .i64 1]] m = some (.P, .tup [.lst false false 1 1 [.int .i64 1], .int .i64 0], m) := agnP_c false false false true 2 1 4 (PF.map castP) [2, 0, 3, 1] (by decide) (by decide) m
theorem kw1 (m : LMem) : clF LP n_ring_Against [.int .i64 4, .lst false false 2 5 [.int .i64 0, .int .i64 1, .int .i64 1, .int .i64 2, .int .i64 2, .int .i64 0, .int .i64 2, .int .i64 3, .int .i64 3, .int .i64 1], .lst false true 1 2 [.int .i64 0, .int .i64 1]] m = some (.P, .tup [.lst true true 0 0 [], .int .i64 5], m) := agnP_c false false false true 2 1 4 (PF.map castP) [0, 1] (by decide) (by decide) m
theorem kw2 (m : LMem) : clF LP n_ring_Fewest [.int .i64 4, .lst false false 2 5 [.int .i64 0, .int .i64 1, .int .i64 1, .int .i64 2, .int .i64 2, .int .i64 0, .int .i64 2, .int .i64 3, .int .i64 3, .int .i64 1]] m = some (.P, .tup [.int .i64 1, .int .i64 0], m) := by
  have h := fewest_c 4 PF GF false false 2 m
  rw [fwF] at h
  exact h
theorem kw3 (m : LMem) : clF LP n_ring_Order [.int .i64 2, .lst false false 2 4 [.int .i64 0, .int .i64 1, .int .i64 1, .int .i64 0, .int .i64 0, .int .i64 1, .int .i64 1, .int .i64 0]] m = some (.P, .tup [.lst false false 1 2 [.int .i64 0, .int .i64 1], .int .i64 0], m) := by
  have h := order_c 2 PG GG false false 2 m
  rw [kgreG] at h
  exact h
theorem kw4 (m : LMem) : clF LP n_ring_Count [.int .i64 2, .lst false false 2 4 [.int .i64 0, .int .i64 1, .int .i64 1, .int .i64 0, .int .i64 0, .int .i64 1, .int .i64 1, .int .i64 0]] m = some (.P, .tup [.int .i64 2, .int .i64 0], m) := by
  have h := count_c 2 PG GG false false 2 m
  rw [fwG] at h
  exact h
theorem kw6 : ∃ a b z, ∀ m, clF LP n_ring_Strike [.int .i64 4, .lst false false 2 5 [.int .i64 0, .int .i64 1, .int .i64 1, .int .i64 2, .int .i64 2, .int .i64 0, .int .i64 2, .int .i64 3, .int .i64 3, .int .i64 1]] m = some (.P, .tup [.lst a b z 1 [.int .i64 1], .int .i64 0], m) := by
  obtain ⟨a, b, z, h⟩ := strike_c 4 PF GF false (by decide)
  rw [kstrF] at h
  exact ⟨a, b, z, h⟩
def tabK (a b : Bool) (z : Nat) : List (Nat × List LV × LV) := [(n_ring_Against, [.int .i64 4, .lst false false 2 5 [.int .i64 0, .int .i64 1, .int .i64 1, .int .i64 2, .int .i64 2, .int .i64 0, .int .i64 2, .int .i64 3, .int .i64 3, .int .i64 1], .lst false true 1 4 [.int .i64 2, .int .i64 0, .int .i64 3, .int .i64 1]], .tup [.lst false false 1 1 [.int .i64 1], .int .i64 0]), (n_ring_Against, [.int .i64 4, .lst false false 2 5 [.int .i64 0, .int .i64 1, .int .i64 1, .int .i64 2, .int .i64 2, .int .i64 0, .int .i64 2, .int .i64 3, .int .i64 3, .int .i64 1], .lst false true 1 2 [.int .i64 0, .int .i64 1]], .tup [.lst true true 0 0 [], .int .i64 5]), (n_ring_Fewest, [.int .i64 4, .lst false false 2 5 [.int .i64 0, .int .i64 1, .int .i64 1, .int .i64 2, .int .i64 2, .int .i64 0, .int .i64 2, .int .i64 3, .int .i64 3, .int .i64 1]], .tup [.int .i64 1, .int .i64 0]), (n_ring_Order, [.int .i64 2, .lst false false 2 4 [.int .i64 0, .int .i64 1, .int .i64 1, .int .i64 0, .int .i64 0, .int .i64 1, .int .i64 1, .int .i64 0]], .tup [.lst false false 1 2 [.int .i64 0, .int .i64 1], .int .i64 0]), (n_ring_Count, [.int .i64 2, .lst false false 2 4 [.int .i64 0, .int .i64 1, .int .i64 1, .int .i64 0, .int .i64 0, .int .i64 1, .int .i64 1, .int .i64 0]], .tup [.int .i64 2, .int .i64 0]), (n_ring_Sure, [.int .i64 2, .lst false false 2 4 [.int .i64 0, .int .i64 1, .int .i64 1, .int .i64 0, .int .i64 0, .int .i64 1, .int .i64 1, .int .i64 0]], .tup [.lst true true 0 0 [], .int .i64 0]), (n_ring_Strike, [.int .i64 4, .lst false false 2 5 [.int .i64 0, .int .i64 1, .int .i64 1, .int .i64 2, .int .i64 2, .int .i64 0, .int .i64 2, .int .i64 3, .int .i64 3, .int .i64 1]], .tup [.lst a b z 1 [.int .i64 1], .int .i64 0]), (n_ring_Strike, [.int .i64 3, .lst true true 0 0 []], .tup [.lst true true 0 0 [], .int .i64 0]), (n_ring_Ring, [.int .i64 2, .lst false false 2 4 [.int .i64 0, .int .i64 1, .int .i64 1, .int .i64 0, .int .i64 0, .int .i64 1, .int .i64 1, .int .i64 0]], .tup [.lst false false 1 2 [.int .i64 0, .int .i64 1], .int .i64 0]), (n_ring_Apart, [.int .i64 4, .lst false false 2 5 [.int .i64 0, .int .i64 1, .int .i64 1, .int .i64 2, .int .i64 2, .int .i64 0, .int .i64 2, .int .i64 3, .int .i64 3, .int .i64 1]], .tup [.lst false false 1 1 [.lst false false 1 3 [.int .i64 0, .int .i64 1, .int .i64 2]], .int .i64 0]), (n_law04_works, [], .bool true)]
theorem known_run (a b : Bool) (z : Nat) : isTrueT (retL law04_RingKnown.results (execT LP (tabT (tabK a b z)) 3000 law04_RingKnown.body (LEnv.ofFrom 0 []) [])) = true := by kernel_rfl
theorem known_c : clF LP n_law04_RingKnown [] [] = some (.P, .bool true, []) := by
  obtain ⟨a, b, z, hk⟩ := kw6
  refine law_T (l := tabK a b z) (fun x hx m => ?_) lp_law04_RingKnown rfl 3000 (known_run a b z) []
  unfold tabK at hx
  rcases List.mem_cons.1 hx with rfl | hx
  · exact kw0 m
  rcases List.mem_cons.1 hx with rfl | hx
  · exact kw1 m
  rcases List.mem_cons.1 hx with rfl | hx
  · exact kw2 m
  rcases List.mem_cons.1 hx with rfl | hx
  · exact kw3 m
  rcases List.mem_cons.1 hx with rfl | hx
  · exact kw4 m
  rcases List.mem_cons.1 hx with rfl | hx
  · exact kran2 m
  rcases List.mem_cons.1 hx with rfl | hx
  · exact hk m
  rcases List.mem_cons.1 hx with rfl | hx
  · exact kran3 m
  rcases List.mem_cons.1 hx with rfl | hx
  · exact kran0 m
  rcases List.mem_cons.1 hx with rfl | hx
  · exact kran1 m
  rcases List.mem_cons.1 hx with rfl | hx
  · exact works_c m
  cases hx
end Go.Am.Ring

/-
  THE JOIN: arguments that came in, as the list machine's lists; what the list machine's answer says of the model's call.
-/
set_option linter.unusedVariables false
namespace Go.Am
variable [Glo]
open Go.RowKit

def Placed (ρ : PM) (b : Nat) (ps : List Place) : Prop := ∀ (i : Nat) (p : Place), ps[i]? = some p → ρ (b + i) = some p
def Shows (s : Sit) (b : Nat) (bl : List (List AV)) : Prop := ∀ (i : Nat) (cs : List AV), bl[i]? = some cs → s.A (b + i) ∧ s.am.look (b + i) = some ⟨cs, false⟩

/-- An argument that reads as a value of the list machine. -/
def ArgOk (w : World) (v : Value) (lv : LV) : Prop :=
  ∃ (bl : Nat → List (List AV)) (ps : List Place) (av : Nat → AV), (∀ b, (bl b).length = ps.length) ∧
    (∀ (ρ : PM) (b : Nat), Placed ρ b ps → VR ρ (av b) v ∧ ∀ (i : Nat) (cs : List AV) (p : Place), (bl b)[i]? = some cs → ps[i]? = some p → p.map = false ∧ CellsAt ρ w cs p) ∧
    (∀ (s : Sit) (b : Nat), Shows s b (bl b) → LR s lv (av b))
inductive ArgsOk (w : World) : List Value → List LV → Prop
  | nil : ArgsOk w [] []
  | cons {v : Value} {lv : LV} {vs : List Value} {lvs : List LV} (h : ArgOk w v lv) (hr : ArgsOk w vs lvs) : ArgsOk w (v :: vs) (lv :: lvs)

omit [Glo] in
theorem append_get {α : Type} (a b : List α) (i : Nat) (x : α) (h : (a ++ b)[i]? = some x) : (i < a.length ∧ a[i]? = some x) ∨ (a.length ≤ i ∧ b[i - a.length]? = some x) := by
  by_cases hi : i < a.length
  · rw [List.getElem?_append_left hi] at h; exact .inl ⟨hi, h⟩
  · rw [List.getElem?_append_right (by omega)] at h; exact .inr ⟨by omega, h⟩

omit [Glo] in
theorem args_all {w : World} : ∀ {vs : List Value} {lvs : List LV}, ArgsOk w vs lvs → ∃ (bl : Nat → List (List AV)) (ps : List Place) (avs : Nat → List AV), (∀ b, (bl b).length = ps.length) ∧
    (∀ (ρ : PM) (b : Nat), Placed ρ b ps → VRs ρ (avs b) vs ∧ ∀ (i : Nat) (cs : List AV) (p : Place), (bl b)[i]? = some cs → ps[i]? = some p → p.map = false ∧ CellsAt ρ w cs p) ∧
    (∀ (s : Sit) (b : Nat), Shows s b (bl b) → LRs s lvs (avs b))
  | _, _, .nil => ⟨fun _ => [], [], fun _ => [], fun _ => rfl, fun ρ b _ => ⟨.nil, fun i cs p h => by simp at h⟩, fun s b _ => .nil⟩
  | _, _, .cons h hr => by
    obtain ⟨bl1, ps1, av1, a1, a2, a3⟩ := h
    obtain ⟨bl2, ps2, av2, b1, b2, b3⟩ := args_all hr
    refine ⟨fun b => bl1 b ++ bl2 (b + ps1.length), ps1 ++ ps2, fun b => av1 b :: av2 (b + ps1.length), fun b => by simp [a1, b1], fun ρ b hp => ?_, fun s b hs => ?_⟩
    · have hp1 : Placed ρ b ps1 := fun i p h => hp i p (by rw [List.getElem?_append_left (List.getElem?_eq_some_iff.1 h).1]; exact h)
      have hp2 : Placed ρ (b + ps1.length) ps2 := fun i p h => by
        have := hp (ps1.length + i) p (by rw [List.getElem?_append_right (by omega)]; simpa using h)
        rw [Nat.add_assoc]; exact this
      obtain ⟨c1, c2⟩ := a2 ρ b hp1
      obtain ⟨d1, d2⟩ := b2 ρ _ hp2
      refine ⟨.cons c1 d1, fun i cs p hcs hpp => ?_⟩
      rcases append_get _ _ _ _ hcs with ⟨e1, e2⟩ | ⟨e1, e2⟩
      · rw [a1] at e1
        rw [List.getElem?_append_left e1] at hpp
        exact c2 i cs p e2 hpp
      · rw [a1] at e1 e2
        rw [List.getElem?_append_right e1] at hpp
        exact d2 _ cs p e2 hpp
    · refine .cons (a3 s b fun i cs h => hs i cs (by rw [List.getElem?_append_left (List.getElem?_eq_some_iff.1 h).1]; exact h)) (b3 s _ fun i cs h => ?_)
      have := hs (ps1.length + i) cs (by rw [List.getElem?_append_right (by rw [a1]; omega)]; rw [a1]; simpa using h)
      rw [Nat.add_assoc]; exact this

/-- Where the package-level variables lie. -/
def gPlaces (n : Nat) : List Place := (List.range n).map fun g => ⟨g, 0, 0, false⟩
omit [Glo] in
theorem gPlaces_get {n g : Nat} {p : Place} (h : (gPlaces n)[g]? = some p) : p = ⟨g, 0, 0, false⟩ := by
  unfold gPlaces at h
  rw [List.getElem?_map] at h
  obtain ⟨x, hx, rfl⟩ := Option.map_eq_some_iff.1 h
  have hg := (List.getElem?_eq_some_iff.1 hx).1
  simp at hg
  rw [List.getElem?_range hg] at hx
  cases hx; rfl

/-- WHAT A LAW's WALK ASKS OF THE LIST MACHINE. -/
theorem law_glob {P : Program} {C : Prog} {LP : LProg} (hC : ProgOk C P) (hmix : P.follows .mixedOrders = true) (hL : ProgL LP C) {f : Nat} {lvs : List LV} {md : Mode} {m' : LMem} (h : clF LP f lvs [] = some (md, .bool true, m'))
    {w : World} {cargs : Array Value} (ha : ArgsOk w cargs.toList lvs) (gb : List (List AV)) (hgb : gb.length = P.globals.size) (hT : ∀ g l, Glo.tab g = some l → gb[g]? = some l) (hcell : ∀ (ρ : PM) (g : Nat) (cs : List AV), gb[g]? = some cs → CellsAt ρ w cs ⟨g, 0, 0, false⟩) :
    Calls P f cargs w fun e w' => e = .returned (.bool true) ∧ Below w.heap.size w w' := by
  obtain ⟨bl, ps, avs, h1, h2, h3⟩ := args_all ha
  obtain ⟨n, hn⟩ := clF_some.1 h
  generalize hN : gb.length = N at hgb
  generalize hall : gb ++ bl N = all
  have hget : ∀ (i : Nat) (cs : List AV), (bl N)[i]? = some cs → all[N + i]? = some cs := fun i cs hi => by
    rw [← hall, List.getElem?_append_right (by omega), hN, Nat.add_sub_cancel_left]; exact hi
  have hs : Shows ⟨[], memOf all, fun _ => 0, fun b => b < all.length⟩ N (bl N) := fun i cs hi =>
    ⟨(List.getElem?_eq_some_iff.1 (hget i cs hi)).1, by show (memOf all).look (N + i) = _; rw [memOf_look, hget i cs hi]; rfl⟩
  have hrel : Rel2 ⟨[], memOf all, fun _ => 0, fun b => b < all.length⟩ := by
    refine ⟨fun i b hb => by simp at hb, fun i j b b' hb => by simp at hb, fun b hb => ?_, fun b ab hb => ?_, fun g l hg => ?_⟩
    · have hb : b < all.length := hb
      exact ⟨⟨all[b], false⟩, by show (memOf all).look b = _; rw [memOf_look, List.getElem?_eq_getElem hb]; rfl⟩
    · have hb : (memOf all).look b = some ab := hb
      show b < (memOf all).next
      rw [memOf_next]
      rw [memOf_look] at hb
      obtain ⟨x, hx, _⟩ := Option.map_eq_some_iff.1 hb
      exact (List.getElem?_eq_some_iff.1 hx).1
    · have e : all[g]? = some l := by
        have := hT g l hg
        rw [← hall, List.getElem?_append_left (List.getElem?_eq_some_iff.1 this).1]; exact this
      exact ⟨(List.getElem?_eq_some_iff.1 e).1, by show (memOf all).look g = _; rw [memOf_look, e]; rfl⟩
  obtain ⟨av, am', h4, t, _, _, _, _, h5, _⟩ := callL_sound hL n f lvs [] md (.bool true) m' hn _ (avs N) rfl hrel (h3 _ N hs)
  cases h5
  generalize hpl : gPlaces N ++ ps = pl
  have hgl : (gPlaces N).length = N := by simp [gPlaces]
  have hplaced : Placed (placesOf pl) N ps := fun i p hp => by
    show pl[N + i]? = some p
    rw [← hpl, List.getElem?_append_right (by omega), hgl, Nat.add_sub_cancel_left]; exact hp
  obtain ⟨h6, h7⟩ := h2 (placesOf pl) N hplaced
  refine law_calls hC hmix (l := all) (ps := pl) h4 (by rw [← hall, ← hpl, List.length_append, List.length_append, h1, hgl, hN]) (fun i cs p hcs hp => ?_) h6 fun g hg => ?_
  · rw [← hall] at hcs
    rw [← hpl] at hp
    rcases append_get _ _ _ _ hcs with ⟨e1, e2⟩ | ⟨e1, e2⟩
    · rw [List.getElem?_append_left (by omega)] at hp
      rw [gPlaces_get hp]
      exact ⟨rfl, hcell _ i cs e2⟩
    · rw [List.getElem?_append_right (by omega), hgl] at hp
      rw [hN] at e2
      exact h7 _ cs p e2 hp
  · have hg : g < N := by omega
    refine ⟨⟨g, 0, 0, false⟩, ?_, rfl, rfl, rfl⟩
    show pl[g]? = _
    rw [← hpl, List.getElem?_append_left (by omega)]
    simp [gPlaces, hg]

theorem law_list {P : Program} {C : Prog} {LP : LProg} (hC : ProgOk C P) (hmix : P.follows .mixedOrders = true) (hL : ProgL LP C) {f : Nat} {lvs : List LV} {md : Mode} {m' : LMem} (h : clF LP f lvs [] = some (md, .bool true, m')) (hG : P.globals.size = 0) (hT : ∀ g, Glo.tab g = none)
    {w : World} {cargs : Array Value} (ha : ArgsOk w cargs.toList lvs) : Calls P f cargs w fun e w' => e = .returned (.bool true) ∧ Below w.heap.size w w' :=
  law_glob hC hmix hL h ha [] (by simp [hG]) (fun g l hg => by rw [hT g] at hg; cases hg) (fun ρ g cs hg => by simp at hg)
end Go.Am

/-
  THE JOIN, 2: lists of numbers, and lists of lists, that came in.
-/
set_option linter.unusedVariables false
namespace Go.Am
variable [Glo]
open Go.ChangeShapes Go.RowKit Go.Deep

end Go.Am

/-
  THE JOIN, 3: arguments read behind the call as before it.
-/
set_option linter.unusedVariables false
namespace Go.Am
variable [Glo]
open Go.RowKit
end Go.Am


