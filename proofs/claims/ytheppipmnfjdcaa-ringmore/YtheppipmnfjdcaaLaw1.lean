import Derived.Test.YtheppipmnfjdcaaLm10
import Derived.Test.YtheppipmnfjdcaaAm17
import Derived.Below
import Derived.ChangeSlices
import Derived.Deep.Matrix
import Derived.OpenShut
import Derived.ChangeArms
import Derived.Test.YtheppipmnfjdcaaRingD1
import Derived.Carry
/-
  THE JOIN: arguments that came in, as the list machine's lists; what the list machine's answer says of the model's call.
-/
set_option linter.unusedVariables false
namespace Go.Am
variable [Glo]
open Go.RowKit

def Placed (ρ : PM) (b : Nat) (ps : List Place) : Prop := ∀ (i : Nat) (p : Place), ps[i]? = some p → ρ (b + i) = some p
def Shows (s : Sit) (b : Nat) (bl : List (List AV)) : Prop := ∀ (i : Nat) (cs : List AV), bl[i]? = some cs → s.A (b + i) ∧ s.am.look (b + i) = some ⟨cs, false⟩

/-- An argument that reads as a value of the list machine. -/
def ArgOk (w : World) (v : Value) (lv : LV) : Prop :=
  ∃ (bl : Nat → List (List AV)) (ps : List Place) (av : Nat → AV), (∀ b, (bl b).length = ps.length) ∧
    (∀ (ρ : PM) (b : Nat), Placed ρ b ps → VR ρ (av b) v ∧ ∀ (i : Nat) (cs : List AV) (p : Place), (bl b)[i]? = some cs → ps[i]? = some p → p.map = false ∧ CellsAt ρ w cs p) ∧
    (∀ (s : Sit) (b : Nat), Shows s b (bl b) → LR s lv (av b))
inductive ArgsOk (w : World) : List Value → List LV → Prop
  | nil : ArgsOk w [] []
  | cons {v : Value} {lv : LV} {vs : List Value} {lvs : List LV} (h : ArgOk w v lv) (hr : ArgsOk w vs lvs) : ArgsOk w (v :: vs) (lv :: lvs)

omit [Glo] in
theorem argOk_int (w : World) (k : IntKind) (n : Int) : ArgOk w (.int k n) (.int k n) := ⟨fun _ => [], [], fun _ => .int k n, fun _ => rfl, fun ρ b _ => ⟨.int k n, fun i cs p h => by simp at h⟩, fun s b _ => .int k n⟩
omit [Glo] in
theorem append_get {α : Type} (a b : List α) (i : Nat) (x : α) (h : (a ++ b)[i]? = some x) : (i < a.length ∧ a[i]? = some x) ∨ (a.length ≤ i ∧ b[i - a.length]? = some x) := by
  by_cases hi : i < a.length
  · rw [List.getElem?_append_left hi] at h; exact .inl ⟨hi, h⟩
  · rw [List.getElem?_append_right (by omega)] at h; exact .inr ⟨by omega, h⟩

omit [Glo] in
theorem args_all {w : World} : ∀ {vs : List Value} {lvs : List LV}, ArgsOk w vs lvs → ∃ (bl : Nat → List (List AV)) (ps : List Place) (avs : Nat → List AV), (∀ b, (bl b).length = ps.length) ∧
    (∀ (ρ : PM) (b : Nat), Placed ρ b ps → VRs ρ (avs b) vs ∧ ∀ (i : Nat) (cs : List AV) (p : Place), (bl b)[i]? = some cs → ps[i]? = some p → p.map = false ∧ CellsAt ρ w cs p) ∧
    (∀ (s : Sit) (b : Nat), Shows s b (bl b) → LRs s lvs (avs b))
  | _, _, .nil => ⟨fun _ => [], [], fun _ => [], fun _ => rfl, fun ρ b _ => ⟨.nil, fun i cs p h => by simp at h⟩, fun s b _ => .nil⟩
  | _, _, .cons h hr => by
    obtain ⟨bl1, ps1, av1, a1, a2, a3⟩ := h
    obtain ⟨bl2, ps2, av2, b1, b2, b3⟩ := args_all hr
    refine ⟨fun b => bl1 b ++ bl2 (b + ps1.length), ps1 ++ ps2, fun b => av1 b :: av2 (b + ps1.length), fun b => by simp [a1, b1], fun ρ b hp => ?_, fun s b hs => ?_⟩
    · have hp1 : Placed ρ b ps1 := fun i p h => hp i p (by rw [List.getElem?_append_left (List.getElem?_eq_some_iff.1 h).1]; exact h)
      have hp2 : Placed ρ (b + ps1.length) ps2 := fun i p h => by
        have := hp (ps1.length + i) p (by rw [List.getElem?_append_right (by omega)]; simpa using h)
        rw [Nat.add_assoc]; exact this
      obtain ⟨c1, c2⟩ := a2 ρ b hp1
      obtain ⟨d1, d2⟩ := b2 ρ _ hp2
      refine ⟨.cons c1 d1, fun i cs p hcs hpp => ?_⟩
      rcases append_get _ _ _ _ hcs with ⟨e1, e2⟩ | ⟨e1, e2⟩
      · rw [a1] at e1
        rw [List.getElem?_append_left e1] at hpp
        exact c2 i cs p e2 hpp
      · rw [a1] at e1 e2
        rw [List.getElem?_append_right e1] at hpp
        exact d2 _ cs p e2 hpp
    · refine .cons (a3 s b fun i cs h => hs i cs (by rw [List.getElem?_append_left (List.getElem?_eq_some_iff.1 h).1]; exact h)) (b3 s _ fun i cs h => ?_)
      have := hs (ps1.length + i) cs (by rw [List.getElem?_append_right (by rw [a1]; omega)]; rw [a1]; simpa using h)
      rw [Nat.add_assoc]; exact this

/-- Where the package-level variables lie. -/
def gPlaces (n : Nat) : List Place := (List.range n).map fun g => ⟨g, 0, 0, false⟩
omit [Glo] in
theorem gPlaces_get {n g : Nat} {p : Place} (h : (gPlaces n)[g]? = some p) : p = ⟨g, 0, 0, false⟩ := by
  unfold gPlaces at h
  rw [List.getElem?_map] at h
  obtain ⟨x, hx, rfl⟩ := Option.map_eq_some_iff.1 h
  have hg := (List.getElem?_eq_some_iff.1 hx).1
  simp at hg
  rw [List.getElem?_range hg] at hx
  cases hx; rfl

/-- WHAT A LAW's WALK ASKS OF THE LIST MACHINE. -/
theorem law_glob {P : Program} {C : Prog} {LP : LProg} (hC : ProgOk C P) (hmix : P.follows .mixedOrders = true) (hL : ProgL LP C) {f : Nat} {lvs : List LV} {md : Mode} {m' : LMem} (h : clF LP f lvs [] = some (md, .bool true, m'))
    {w : World} {cargs : Array Value} (ha : ArgsOk w cargs.toList lvs) (gb : List (List AV)) (hgb : gb.length = P.globals.size) (hT : ∀ g l, Glo.tab g = some l → gb[g]? = some l) (hcell : ∀ (ρ : PM) (g : Nat) (cs : List AV), gb[g]? = some cs → CellsAt ρ w cs ⟨g, 0, 0, false⟩) :
    Calls P f cargs w fun e w' => e = .returned (.bool true) ∧ Below w.heap.size w w' := by
  obtain ⟨bl, ps, avs, h1, h2, h3⟩ := args_all ha
  obtain ⟨n, hn⟩ := clF_some.1 h
  generalize hN : gb.length = N at hgb
  generalize hall : gb ++ bl N = all
  have hget : ∀ (i : Nat) (cs : List AV), (bl N)[i]? = some cs → all[N + i]? = some cs := fun i cs hi => by
    rw [← hall, List.getElem?_append_right (by omega), hN, Nat.add_sub_cancel_left]; exact hi
  have hs : Shows ⟨[], memOf all, fun _ => 0, fun b => b < all.length⟩ N (bl N) := fun i cs hi =>
    ⟨(List.getElem?_eq_some_iff.1 (hget i cs hi)).1, by show (memOf all).look (N + i) = _; rw [memOf_look, hget i cs hi]; rfl⟩
  have hrel : Rel2 ⟨[], memOf all, fun _ => 0, fun b => b < all.length⟩ := by
    refine ⟨fun i b hb => by simp at hb, fun i j b b' hb => by simp at hb, fun b hb => ?_, fun b ab hb => ?_, fun g l hg => ?_⟩
    · have hb : b < all.length := hb
      exact ⟨⟨all[b], false⟩, by show (memOf all).look b = _; rw [memOf_look, List.getElem?_eq_getElem hb]; rfl⟩
    · have hb : (memOf all).look b = some ab := hb
      show b < (memOf all).next
      rw [memOf_next]
      rw [memOf_look] at hb
      obtain ⟨x, hx, _⟩ := Option.map_eq_some_iff.1 hb
      exact (List.getElem?_eq_some_iff.1 hx).1
    · have e : all[g]? = some l := by
        have := hT g l hg
        rw [← hall, List.getElem?_append_left (List.getElem?_eq_some_iff.1 this).1]; exact this
      exact ⟨(List.getElem?_eq_some_iff.1 e).1, by show (memOf all).look g = _; rw [memOf_look, e]; rfl⟩
  obtain ⟨av, am', h4, t, _, _, _, _, h5, _⟩ := callL_sound hL n f lvs [] md (.bool true) m' hn _ (avs N) rfl hrel (h3 _ N hs)
  cases h5
  generalize hpl : gPlaces N ++ ps = pl
  have hgl : (gPlaces N).length = N := by simp [gPlaces]
  have hplaced : Placed (placesOf pl) N ps := fun i p hp => by
    show pl[N + i]? = some p
    rw [← hpl, List.getElem?_append_right (by omega), hgl, Nat.add_sub_cancel_left]; exact hp
  obtain ⟨h6, h7⟩ := h2 (placesOf pl) N hplaced
  refine law_calls hC hmix (l := all) (ps := pl) h4 (by rw [← hall, ← hpl, List.length_append, List.length_append, h1, hgl, hN]) (fun i cs p hcs hp => ?_) h6 fun g hg => ?_
  · rw [← hall] at hcs
    rw [← hpl] at hp
    rcases append_get _ _ _ _ hcs with ⟨e1, e2⟩ | ⟨e1, e2⟩
    · rw [List.getElem?_append_left (by omega)] at hp
      rw [gPlaces_get hp]
      exact ⟨rfl, hcell _ i cs e2⟩
    · rw [List.getElem?_append_right (by omega), hgl] at hp
      rw [hN] at e2
      exact h7 _ cs p e2 hp
  · have hg : g < N := by omega
    refine ⟨⟨g, 0, 0, false⟩, ?_, rfl, rfl, rfl⟩
    show pl[g]? = _
    rw [← hpl, List.getElem?_append_left (by omega)]
    simp [gPlaces, hg]

theorem law_list {P : Program} {C : Prog} {LP : LProg} (hC : ProgOk C P) (hmix : P.follows .mixedOrders = true) (hL : ProgL LP C) {f : Nat} {lvs : List LV} {md : Mode} {m' : LMem} (h : clF LP f lvs [] = some (md, .bool true, m')) (hG : P.globals.size = 0) (hT : ∀ g, Glo.tab g = none)
    {w : World} {cargs : Array Value} (ha : ArgsOk w cargs.toList lvs) : Calls P f cargs w fun e w' => e = .returned (.bool true) ∧ Below w.heap.size w w' :=
  law_glob hC hmix hL h ha [] (by simp [hG]) (fun g l hg => by rw [hT g] at hg; cases hg) (fun ρ g cs hg => by simp at hg)
end Go.Am

/-
  THE JOIN, 2: lists of numbers, and lists of lists, that came in.
-/
set_option linter.unusedVariables false
namespace Go.Am
variable [Glo]
open Go.ChangeShapes Go.RowKit Go.Deep

end Go.Am

/-
  THE JOIN, 6: lists of pairs of numbers that came in.
-/
set_option linter.unusedVariables false
namespace Go.Am
variable [Glo]
open Go.ChangeShapes Go.RowKit Go.Deep
section
variable {H : Type} {enc : TypeId × Value → H} {P : Program} {w : World} {base fuel : Nat} {sp : Nat → Bool} {held : Bool}

end
end Go.Am

/-
  What functions of chapter 04 compute, 12: the law RingOrders.
-/
set_option linter.unusedVariables false
set_option linter.unusedSimpArgs false
set_option maxRecDepth 10000
namespace Go.Am.Ring
open Go.Am.G

end Go.Am.Ring

/-
  What functions of chapter 04 compute, outright 2: one find more; the law RingMore.
-/
set_option linter.unusedVariables false
set_option linter.unusedSimpArgs false
set_option maxRecDepth 10000
set_option maxHeartbeats 1000000
namespace Go.Am.Ring
open Go.Am.G

theorem contr_snoc (o : List Nat) (P : List (Nat × Nat)) (p : Nat × Nat) : contr (P ++ [p]) o = contr P o + if badB o p then 1 else 0 := by
  unfold contr
  rw [List.countP_append]
  congr 1
  rw [List.countP_singleton]; rfl
theorem FW_snoc {n : Nat} {P : List (Nat × Nat)} {p : Nat × Nat} (G : Good n P) (G2 : Good n (P ++ [p])) : FW n P ≤ FW n (P ++ [p]) ∧ FW n (P ++ [p]) ≤ FW n P + 1 := by
  obtain ⟨o1, h1, e1⟩ := FW_at G
  obtain ⟨o2, h2, e2⟩ := FW_at G2
  have l1 := FW_le G h2
  have l2 := FW_le G2 h1
  rw [contr_snoc] at e2 l2
  constructor
  · split at e2 <;> omega
  · split at l2 <;> omega
theorem strikeF_len (P : List (Nat × Nat)) : ∀ (k : Nat) (b l : List Nat), strikeS P k b = some l → l.length = b.length + k
  | 0, b, l, h => by
    rw [strikeS] at h
    split at h
    · cases h; rfl
    · cases h
  | k + 1, b, l, h => by
    rw [strikeS] at h
    obtain ⟨i, _, hi⟩ := List.exists_of_findSome?_eq_some h
    have := strikeF_len P k (b ++ [i]) l hi
    simp at this; omega
theorem strL_len {n : Nat} {P : List (Nat × Nat)} (G : Good n P) : (strL n P).length = FW n P := by
  have := strikeF_len P _ _ _ (strike_some G).1
  simpa using this
theorem strike_v (n : Nat) (P : List (Nat × Nat)) (G : Good n P) (nl ex : Bool) (sz : Nat) (hv : FVok P nl sz) : ∃ a b z, ∀ m, clF LP n_ring_Strike [.int .i64 (n : Int), FN nl ex sz P] m = some (.P, .tup [.lst a b z (strL n P).length ((ci (strL n P)).map (LV.int .i64)), .int .i64 0], m) := by
  have hc := fun m => check_c nl ex sz (n : Int) (P.map castP) (by have := G.le12; simp; omega) m
  rw [chkF_of G] at hc
  have hpu : LV.pures [.int .i64 (n : Int), FN nl ex sz P] = true := by simp [LV.pures, LV.pure]
  by_cases hP : P = []
  · subst hP
    refine ⟨true, true, 0, fun m => ?_⟩
    have hcl := fun m => clone20_c nl ex sz m
    have hL : exF LP ring_Strike.L0 [(0, .int .i64 (n : Int)), (7, .lst true true 0 0 []), (8, .lst nl true 0 0 []), (22, .int .i64 0), (23, .int .i64 0)] [] = some (.exit 0, [(7, .lst true true 0 0 [])], []) := by
      rw [ring_Strike.L0_eq]
      simp only [ring_Strike.B0, exF_seq, exF_region, exF_cond, exF_exit, runL, wantL, stepL, evL, LEnv.at, putL, loadFine, LEnv.keep, List.map_cons, List.map_nil, nbeq, bin_lss, Nat.reduceEqDiff, decide_true, decide_false, cond_true, cond_false, reduceCtorEq, eq_self, Int.reduceLT]
    have e : strL n [] = [] := rfl
    rw [e]
    refine call_P lp_ring_Strike rfl hpu (m1 := []) ?_ rfl m
    simp only [FN, FL, List.map_nil, List.length_nil, show pcI [] = [] from rfl] at hc ⊢
    simp only [ring_Strike, ring_Strike.B, exF_seq, exF_region, exF_block, exF_cond, exF_ret, exF_skip, runL, wantL, stepL, evL, evC, LEnv.at, putL, loadFine, LEnv.keep, LEnv.ofFrom, List.map_cons, List.map_nil, nbeq, ofAVs, lenL, bin_neq, Nat.reduceEqDiff, decide_true, decide_false, cond_true, cond_false, Nat.reduceAdd, reduceCtorEq, eq_self, retL, resultsL, resAllL, resOfL, List.append_nil, List.nil_append, not_true_eq_false, ne_eq, Int.natCast_zero, hc, hcl, hL]
  · obtain ⟨rfl, rfl⟩ := hv.resolve_left hP
    have hne : P.map castP ≠ [] := by simpa using hP
    have hcl := fun m => clone2_c ex (P.map castP) (by have := G.le12; simp; omega) hne m
    rw [List.length_map] at hcl
    have V : LV2 [⟨pcI (P.map castP), true⟩] (.sl 0 0 P.length P.length 2 2 (P.length * 2)) 0 (wS P []) := by
      have e : wS P [] = P := wo_nil P 0
      rw [e]
      exact ⟨P.length, P.length * 2, [], true, rfl, by simp, by simp [Pcs_len], Nat.le_refl _⟩
    obtain ⟨vo', M', he, hL⟩ := strike_ploop n P G P.length 0 [] [⟨pcI (P.map castP), true⟩] (.lst true true 0 0 []) (.sl 0 0 P.length P.length 2 2 (P.length * 2)) 0 (by omega) List.nodup_nil (by simp) (Lst.nil _ 1) V (by simp [isBlk])
    obtain ⟨a, b, z, ids, hz, _, _, hvw⟩ := hL.view (pures_int _ _) (by omega)
    refine ⟨a, b, z, fun m => ?_⟩
    have hv2 : view 100 M' (.tup [vo', .int .i64 0]) = some (.tup [.lst a b z (strL n P).length ((ci (strL n P)).map (LV.int .i64)), .int .i64 0], ids) := by
      by_cases hp : LV.pures [vo', .int .i64 0] = true
      · have e1 := hvw 97
        have hvp : vo'.pure = true := by simpa [LV.pures, LV.pure] using hp
        rw [view_pure 98 M' vo' hvp] at e1
        simp only [Option.some.injEq, Prod.mk.injEq] at e1
        obtain ⟨e1, e2⟩ := e1
        rw [view_pure 98 M' _ (by simpa [LV.pure] using hp), ← e2, e1]
      · exact view_tup2 M' vo' (.int .i64 0) _ ids hvw rfl (by simpa using hp)
    refine call_Pv lp_ring_Strike rfl hpu (m1 := M') (v := .tup [vo', .int .i64 0]) (ids := ids) ?_ hv2 m
    simp only [Int.natCast_zero] at he
    simp only [FN_eq] at hc ⊢
    simp only [FL, List.length_map] at hcl
    simp only [ring_Strike, ring_Strike.B, exF_seq, exF_region, exF_block, exF_cond, exF_ret, exF_skip, runL, wantL, stepL, evL, evC, LEnv.at, putL, loadFine, LEnv.keep, LEnv.ofFrom, List.map_cons, List.map_nil, nbeq, ofAVs, lenL, bin_neq, Nat.reduceEqDiff, decide_true, decide_false, cond_true, cond_false, Nat.reduceAdd, reduceCtorEq, List.length_nil, eq_self, retL, resultsL, resAllL, resOfL, List.append_nil, List.nil_append, not_true_eq_false, ne_eq, hc, hcl, he]
/-- A copy of finds, as a list that may grow. -/
theorem cloneL_c (P : List (Nat × Nat)) (hP : P.length ≤ 12) (nl ex : Bool) (sz : Nat) (hv : FVok P nl sz) (m : LMem) : ∃ v m', clF LP n_slices_Clone_2_int_2_int [FN nl ex sz P] m = some (.O, v, m') ∧ Lst m' v 2 P.length (Pcs P) ∧ (∀ i, isBlk v i → m.length ≤ i) ∧ m.length ≤ m'.length ∧ ∀ i, i < m.length → m'[i]? = m[i]? := by
  by_cases h : P = []
  · subst h
    refine ⟨.lst nl true 0 0 [], m, clone20_c nl ex sz m, .inl ⟨nl, true, 0, rfl, .inr rfl, .inl rfl, fun _ => rfl, rfl⟩, by simp [isBlk], Nat.le_refl _, fun _ _ => rfl⟩
  · obtain ⟨rfl, rfl⟩ := hv.resolve_left h
    have hc := clone2_c ex (P.map castP) (by simp; omega) (by simpa using h) m
    rw [List.length_map] at hc
    refine ⟨_, _, hc, .inr ⟨m.length, rfl, get_last _ _, Pcs_len P, List.length_pos_iff.2 h⟩, fun i hi => by cases hi; exact Nat.le_refl _, by simp, fun i hi => by rw [List.getElem?_append_left hi]⟩
/-- A list of finds in memory, shown to a call behind a number. -/
theorem viewsL {m : LMem} {v : LV} {P : List (Nat × Nat)} (hL : Lst m v 2 P.length (Pcs P)) (n : Nat) : ∃ a b z ids, FVok P a z ∧ (∀ i ∈ ids, isBlk v i) ∧ views m [.int .i64 (n : Int), v] = some ([.int .i64 (n : Int), FN a b z P], ids) := by
  obtain ⟨a, b, z, ids, hz, hn, hb, hvw⟩ := hL.view (Pcs_pures P) (by omega)
  have hlen : FN a b z P = .lst a b z P.length (Pcs P) := FN_eq a b z P
  refine ⟨a, b, z, ids, ?_, hb, ?_⟩
  · by_cases c : P = []
    · exact .inl c
    · have hl : P.length ≠ 0 := fun e => c (List.length_eq_zero_iff.1 e)
      refine .inr ⟨?_, hz.resolve_left hl⟩
      cases a
      · rfl
      · exact absurd (hn rfl) hl
  · rw [hlen]
    by_cases hp : LV.pures [.int .i64 (n : Int), v] = true
    · have e1 := hvw 97
      have hvp : v.pure = true := by simpa [LV.pures, LV.pure] using hp
      rw [view_pure 98 m v hvp] at e1
      simp only [Option.some.injEq, Prod.mk.injEq] at e1
      obtain ⟨e1, e2⟩ := e1
      rw [views_pures m _ hp, ← e2, e1]
    · exact views_snd 92 m (.int .i64 (n : Int)) v _ ids hvw rfl (by simpa using hp)
theorem more_law (f k : Nat) (hf : f < 256) (hk : k < 256) (bs : List Nat) (hb : bs.length = 24) (hbs : ∀ x ∈ bs, x < 256) (o t : Nat) (ho : o < 256) (ht : t < 256) :
    clF LP n_law04_RingMore [.agg (bys (f :: k :: bs)), .int .u8 (o : Int), .int .u8 (t : Int)] [] = some (.P, .bool true, []) := by
  obtain ⟨a, b, z, hv, hmade⟩ := made_c f k hf hk bs hb hbs 6 11 (by omega) (by omega)
  have hn : 2 ≤ 2 + f % (6 - 1) ∧ 2 + f % (6 - 1) ≤ 6 := by omega
  have hkk : k % (11 + 1) ≤ 11 := by omega
  have G := made_good hn.1 hn.2 bs (i := k % (11 + 1)) (by omega)
  have hPl := madeP_len (2 + f % (6 - 1)) bs (k % (11 + 1))
  generalize madeP (2 + f % (6 - 1)) bs (k % (11 + 1)) = P at *
  generalize (2 + f % (6 - 1) : Nat) = n at *
  have a0 : o % n < n := Nat.mod_lt _ (by omega)
  have a1 : t % (n - 1) < n - 1 := Nat.mod_lt _ (by omega)
  have G2 : Good n (P ++ [(o % n, (o % n + 1 + t % (n - 1)) % n)]) := by
    refine ⟨G.pos, G.le6, by rw [List.length_append, hPl]; simp; omega, fun p hp => ?_, fun p hp => ?_⟩
    · rcases List.mem_append.1 hp with h | h
      · exact G.lt p h
      · rw [List.mem_singleton.1 h]; exact ⟨a0, Nat.mod_lt _ (by omega)⟩
    · rcases List.mem_append.1 hp with h | h
      · exact G.ne p h
      · rw [List.mem_singleton.1 h]
        simp only
        generalize o % n = x at *
        generalize t % (n - 1) = y at *
        by_cases h : x + 1 + y < n
        · rw [Nat.mod_eq_of_lt h]; omega
        · rw [Nat.mod_eq_sub_mod (by omega), Nat.mod_eq_of_lt (by omega)]; omega
  let W : LBlk := ⟨bys (f :: k :: bs), true⟩
  obtain ⟨v1, m1, hcl, hL1, hb1, hl1, hk1⟩ := cloneL_c P (by omega) a b z hv [W]
  obtain ⟨v2, m2, hap, hL2, hk2, hl2, hb2⟩ := hL1.append (x := .lst false true 2 1 [.int .i64 ((o % n : Nat) : Int), .int .i64 (((o % n + 1 + t % (n - 1)) % n : Nat) : Int)]) (k := 1) (news := [.int .i64 ((o % n : Nat) : Int), .int .i64 (((o % n + 1 + t % (n - 1)) % n : Nat) : Int)]) (bytes := 16) (by simp [contents, nbeq]) rfl (by omega) (by omega) rfl
  have hL2 : Lst m2 v2 2 (P ++ [(o % n, (o % n + 1 + t % (n - 1)) % n)]).length (Pcs (P ++ [(o % n, (o % n + 1 + t % (n - 1)) % n)])) := by
    have e := Pcs_snoc P (o % n) ((o % n + 1 + t % (n - 1)) % n)
    rw [e]; simpa using hL2
  have hS := FW_snoc G G2
  have hSl := strL_len G2
  have hF1 := fun m => fewest_c n P G a b z m
  have hF1e : (fwD anyM P n 0).1 = FW n P := rfl
  rw [hF1e] at hF1
  generalize hQ : P ++ [(o % n, (o % n + 1 + t % (n - 1)) % n)] = Q at *
  obtain ⟨a2, b2, z2, ids, hv2, _, hvs⟩ := viewsL hL2 n
  have hF2 := call_view lp_ring_Fewest rfl hvs (by simp [LV.pures, LV.pure]) (fewest_c n Q G2 a2 b2 z2 []) rfl
  have hF2e : (fwD anyM Q n 0).1 = FW n Q := rfl
  rw [hF2e] at hF2
  obtain ⟨a3, b3, z3, hst⟩ := strike_v n Q G2 a2 b2 z2 hv2
  obtain ⟨m3, hst3, _, _⟩ := call_shown lp_ring_Strike rfl hvs (by simp [LV.pures, LV.pure]) (hst [])
  rw [hSl] at hst3
  generalize (ci (strL n Q)).map (LV.int .i64) = SL at *
  have hlx : FW n P ≤ 13 := (fwD_le anyM P n G.le6 0).1
  generalize FW n P = x at *
  generalize FW n Q = y at *
  refine call_P lp_law04_RingMore rfl (by simp only [LV.pures, LV.pure, pures_int, Bool.and_self]) (m1 := m3) ?_ rfl []
  have hlen : (bys (f :: k :: bs)).length = 26 := by simp [hb]
  have htk : (bys (f :: k :: bs)).take 26 = bys (f :: k :: bs) := List.take_of_length_le (by rw [hlen]; exact Nat.le_refl _)
  have r1 : binL .rem (.int .i64 (o : Int)) (.int .i64 (n : Int)) = some (.int .i64 ((o % n : Nat) : Int)) := by
    rw [bin_rem (k := .i64) (a := (o : Int)) (b := (n : Int)) (show (n : Int) ≠ 0 by omega), tmod_nat]
  have hn1 : IntKind.i64.wrap ((n : Int) - 1) = ((n - 1 : Nat) : Int) := by rw [wrap_in (by omega)]; omega
  have r2 : binL .rem (.int .i64 (t : Int)) (.int .i64 ((n - 1 : Nat) : Int)) = some (.int .i64 ((t % (n - 1) : Nat) : Int)) := by
    rw [bin_rem (k := .i64) (a := (t : Int)) (b := ((n - 1 : Nat) : Int)) (show ((n - 1 : Nat) : Int) ≠ 0 by omega), tmod_nat]
  have w1 : IntKind.i64.wrap (((o % n : Nat) : Int) + 1) = ((o % n + 1 : Nat) : Int) := wrap_succ (by omega)
  have w2 : IntKind.i64.wrap (((o % n + 1 : Nat) : Int) + ((t % (n - 1) : Nat) : Int)) = ((o % n + 1 + t % (n - 1) : Nat) : Int) := by rw [wrap_in (by omega)]; omega
  have r3 : binL .rem (.int .i64 ((o % n + 1 + t % (n - 1) : Nat) : Int)) (.int .i64 (n : Int)) = some (.int .i64 (((o % n + 1 + t % (n - 1)) % n : Nat) : Int)) := by
    rw [bin_rem (k := .i64) (a := ((o % n + 1 + t % (n - 1) : Nat) : Int)) (b := (n : Int)) (show (n : Int) ≠ 0 by omega), tmod_nat]
  have c0 := conv8 ho
  have c1 := conv8 ht
  have hw1 := wrap_succ (show x + 1 < 9223372036854775808 by omega)
  have g1 : (x : Int) ≤ (y : Int) := by omega
  have g2 : (y : Int) ≤ ((x + 1 : Nat) : Int) := by omega
  simp only [W] at hcl
  have e6 : ((6 : Nat) : Int) = 6 := rfl
  have e11 : ((11 : Nat) : Int) = 11 := rfl
  rw [e6, e11] at hmade
  generalize bys (f :: k :: bs) = Wb at *
  generalize ((o % n + 1 + t % (n - 1)) % n : Nat) = s4 at *
  generalize (o % n + 1 + t % (n - 1) : Nat) = s3 at *
  generalize (o % n : Nat) = s1 at *
  generalize (t % (n - 1) : Nat) = s2 at *
  generalize FN a b z P = FP at *
  simp only [law04_RingMore, law04_RingMore.B, law04_RingMore.B.R0, law04_RingMore.B.R1, law04_RingMore.B.R2, law04_RingMore.B.R3, law04_RingMore.B.R4]
  repeat (rw [exF_seq]; try simp only [beqT, exF_region, exF_ret, runL, wantL, stepL, evL, evC, LEnv.at, putL, loadFine, loadL, cellsAt, Trk.calm, Trk.hit, LEnv.keep, LEnv.ofFrom, List.map_cons, List.map_nil, nbeq, nble, ofAV, ofAVs, lenL, bin_add, bin_sub, bin_eql, bin_leq, bin_geq, List.any_nil, Bool.or_false, Bool.or_true, Bool.and_true, Bool.false_and, Bool.not_true, Bool.not_false, Nat.reduceEqDiff, decide_true, decide_false, cond_true, cond_false, Nat.reduceAdd, Nat.reduceLeDiff, reduceCtorEq, List.length_nil, List.length_cons, eq_self, retL, resultsL, resAllL, resOfL, List.append_nil, List.nil_append, List.cons_append, views_pures, LV.pures, LV.pure, freeze, Nat.reduceDiv, LV.cells, allocL, List.getElem?_cons_zero, List.getElem?_cons_succ, spliceL, List.take_zero, List.take_succ_cons, List.drop_zero, List.drop_succ_cons, List.drop_nil, List.take_nil, Nat.le_refl, Nat.reduceMul, fillL, hlen, htk, hmade, c0, r1, hcl, c1, hn1, r2, w1, w2, r3, hap, hF1, hF2, hst3, g1, g2, hw1, works_c])
theorem bys_of : ∀ (ns : List Int), (∀ x ∈ ns, 0 ≤ x ∧ x < 256) → ∃ l : List Nat, ns = ci l ∧ (∀ x ∈ l, x < 256) ∧ l.length = ns.length
  | [], _ => ⟨[], rfl, by simp, rfl⟩
  | x :: r, h => by
    obtain ⟨l, rfl, h1, h2⟩ := bys_of r fun y hy => h y (by simp [hy])
    obtain ⟨k, rfl⟩ := Int.eq_ofNat_of_zero_le (h x (by simp)).1
    have := (h k (by simp)).2
    refine ⟨k :: l, rfl, fun y hy => ?_, by simp⟩
    rcases List.mem_cons.1 hy with rfl | hy
    · omega
    · exact h1 y hy
theorem lay_of (ns : List Int) (hl : ns.length = 26) (h : ∀ x ∈ ns, 0 ≤ x ∧ x < 256) : ∃ (f k : Nat) (bs : List Nat), ns.map (LV.int .u8) = bys (f :: k :: bs) ∧ f < 256 ∧ k < 256 ∧ bs.length = 24 ∧ ∀ x ∈ bs, x < 256 := by
  obtain ⟨l, rfl, h1, h2⟩ := bys_of ns h
  match l, h2, h1 with
  | f :: k :: bs, h2, h1 =>
    refine ⟨f, k, bs, rfl, h1 f (by simp), h1 k (by simp), ?_, fun x hx => h1 x (by simp [hx])⟩
    simp at hl; omega
  | [_], h2, _ => simp at hl
  | [], h2, _ => simp at hl
theorem more_in (ns : List Int) (hl : ns.length = 26) (h : ∀ x ∈ ns, 0 ≤ x ∧ x < 256) (o : Int) (ho : 0 ≤ o ∧ o < 256) (t : Int) (ht : 0 ≤ t ∧ t < 256) : clF LP n_law04_RingMore [.agg (ns.map (LV.int .u8)), .int .u8 o, .int .u8 t] [] = some (.P, .bool true, []) := by
  obtain ⟨f, k, bs, e, hf, hk, hb, hbs⟩ := lay_of ns hl h
  obtain ⟨o, rfl⟩ := Int.eq_ofNat_of_zero_le ho.1
  obtain ⟨t, rfl⟩ := Int.eq_ofNat_of_zero_le ht.1
  rw [e]
  exact more_law f k hf hk bs hb hbs o t (by omega) (by omega)
end Go.Am.Ring

/-
  THE JOIN, 3: arguments read behind the call as before it.
-/
set_option linter.unusedVariables false
namespace Go.Am
variable [Glo]
open Go.RowKit
omit [Glo] in
theorem trodAll_below {H : Type} {enc : TypeId × Value → H} {P : Program} {W W' : World} (hl : laidOutB P = true) (hb : Below W.heap.size W W') : ∀ {ts : List TypeId} {vs : List Value} {ds : List (DataW H)} {ps : List MemPlace}, (ts.all fun t => P.readableRec t && decide (t < P.types.size)) = true →
    DataW.TrodAll enc P W 0 (fun _ => true) true ts vs ds ps → (∀ x ∈ ps, x.block < W.heap.size) → DataW.TrodAll enc P W' 0 (fun b => decide (b < W.heap.size)) true ts vs ds ps
  | [], [], [], _, _, h, _ => h
  | t :: ts, v :: vs, d :: ds, ps, hr, ⟨p, q, h1, h2, e⟩, hlt => by
    simp only [List.all_cons, Bool.and_eq_true, decide_eq_true_eq] at hr
    subst e
    exact ⟨p, q, Below.trod hl hr.1.1 hr.1.2 h1 hb (fun x hx => hlt x (List.mem_append_left _ hx)), trodAll_below hl hb hr.2 h2 (fun x hx => hlt x (List.mem_append_right _ hx)), rfl⟩
end Go.Am

/-
  THE JOIN, 4: structs of bytes that came in.
-/
set_option linter.unusedVariables false
namespace Go.Am
variable [Glo]
open Go.RowKit

/-! ### Types that hold bytes alone -/
def sumPc : Nat → List (Nat × Nat) → Option Nat
  | off, [] => some off
  | off, (o, k) :: r => cond (Nat.beq o off) (sumPc (off + k) r) none
def pcsF (P : Program) (g : TypeId → Option Nat) : List Field → Option (List (Nat × Nat))
  | [] => some []
  | f :: r => match g f.type with
    | some k => match pcsF P g r with
      | some l => cond (Nat.beq (P.cellsOf f.type) k) (some ((f.offset, k) :: l)) none
      | none => none
    | none => none
/-- How many bytes. -/
def u8T (P : Program) : Nat → TypeId → Option Nat
  | 0, _ => none
  | n + 1, t => match P.underlying t with
    | some (.int .u8) => some 1
    | some (.array m e) => match u8T P n e with
      | some k => cond (Nat.beq (P.cellsOf e) k && Nat.beq (P.cellsOf t) (m * k)) (some (m * k)) none
      | none => none
    | some (.struct fs) => match pcsF P (u8T P n) fs.toList with
      | some l => match sumPc 0 l with
        | some k => cond (Nat.beq (P.cellsOf t) k) (some k) none
        | none => none
      | none => none
    | _ => none
def U8s (cs : List Value) : Prop := ∀ (i : Nat) (v : Value), cs[i]? = some v → ∃ n : Int, v = .int .u8 n ∧ (Lit.int .u8 n).wf = true

omit [Glo] in
theorem sumPc_in : ∀ (l : List (Nat × Nat)) (off tot : Nat), sumPc off l = some tot → ∀ i, off ≤ i → i < tot → ∃ p ∈ l, p.1 ≤ i ∧ i < p.1 + p.2
  | [], off, tot, h, i, h1, h2 => by simp only [sumPc, Option.some.injEq] at h; omega
  | (o, k) :: r, off, tot, h, i, h1, h2 => by
    simp only [sumPc] at h
    cases c : Nat.beq o off <;> rw [c] at h
    · cases h
    · have e : o = off := by simpa using c
      subst e
      by_cases hi : i < o + k
      · exact ⟨(o, k), by simp, h1, hi⟩
      · obtain ⟨p, hp, h3⟩ := sumPc_in r _ _ h i (by omega) h2
        exact ⟨p, by simp [hp], h3⟩
omit [Glo] in
theorem pcsF_in {P : Program} {g : TypeId → Option Nat} : ∀ (fs : List Field) (l : List (Nat × Nat)), pcsF P g fs = some l → ∀ p ∈ l, ∃ (i : Nat) (f : Field), fs[i]? = some f ∧ f.offset = p.1 ∧ g f.type = some p.2 ∧ P.cellsOf f.type = p.2
  | [], l, h, p, hp => by simp only [pcsF, Option.some.injEq] at h; subst h; cases hp
  | f :: r, l, h, p, hp => by
    simp only [pcsF] at h
    split at h
    · rename_i k hk
      split at h
      · rename_i l' hl'
        cases c : Nat.beq (P.cellsOf f.type) k <;> rw [c] at h
        · cases h
        · simp only [cond_true, Option.some.injEq] at h
          subst h
          rcases List.mem_cons.1 hp with rfl | hp
          · exact ⟨0, f, rfl, rfl, hk, by simpa using c⟩
          · obtain ⟨i, f', h1, h2⟩ := pcsF_in r l' hl' p hp
            exact ⟨i + 1, f', by simpa using h1, h2⟩
      · cases h
    · cases h

section
variable {H : Type} {enc : TypeId × Value → H} {P : Program} {w : World} {base : Nat} {sp : Nat → Bool} {held : Bool}
omit [Glo] in
theorem u8T_ok : ∀ (n : Nat) (t : TypeId) (fuel : Nat) (cs : List Value) (x : DataW H × List MemPlace) (k : Nat), u8T P n t = some k → DataW.trod enc P w base sp held fuel t cs = some x → U8s cs ∧ cs.length = k
  | 0, _, _, _, _, _, h, _ => by cases h
  | n + 1, t, fuel, cs, x, k, h, hx => by
    simp only [u8T] at h
    split at h
    · rename_i ht
      cases h
      obtain ⟨a, rfl, _, hw⟩ := DataW.trod_int ht hx
      refine ⟨fun i v hv => ?_, rfl⟩
      match i with
      | 0 => simp at hv; subst hv; exact ⟨a, rfl, hw⟩
      | i + 1 => simp at hv
    · rename_i m e ht
      split at h
      · rename_i k' hk'
        cases c : (Nat.beq (P.cellsOf e) k' && Nat.beq (P.cellsOf t) (m * k')) <;> rw [c] at h
        · cases h
        · simp only [cond_true, Option.some.injEq] at h
          subst h
          simp only [Bool.and_eq_true] at c
          have c1 : P.cellsOf e = k' := by simpa using c.1
          have c2 : P.cellsOf t = m * k' := by simpa using c.2
          obtain ⟨xs, m', _, _, hl, hxl, hf⟩ := DataW.trod_array ht hx
          rw [c2] at hl
          refine ⟨fun i v hv => ?_, hl⟩
          have hi : i < m * k' := by rw [← hl]; exact (List.getElem?_eq_some_iff.1 hv).1
          have hk0 : 0 < k' := by
            rcases Nat.eq_zero_or_pos k' with e0 | e0
            · rw [e0] at hi; simp at hi
            · exact e0
          have h1 : i / k' < m := (Nat.div_lt_iff_lt_mul hk0).2 hi
          have h2 : i % k' < k' := Nat.mod_lt _ hk0
          have h3 : (i / k') * k' + i % k' = i := by rw [Nat.mul_comm]; exact Nat.div_add_mod i k'
          have h4 := hf (i / k') h1
          rw [c1] at h4
          obtain ⟨y, hy⟩ : ∃ y, xs[i / k']? = some y := ⟨xs[i / k']'(by omega), List.getElem?_eq_getElem (by omega)⟩
          rw [hy] at h4
          obtain ⟨h5, _⟩ := u8T_ok n e m' _ y k' hk' h4
          refine h5 (i % k') v ?_
          rw [List.getElem?_take, if_pos h2, List.getElem?_drop, h3]
          exact hv
      · cases h
    · rename_i fs ht
      split at h
      · rename_i l hl'
        split at h
        · rename_i k' hk'
          cases c : Nat.beq (P.cellsOf t) k' <;> rw [c] at h
          · cases h
          · simp only [cond_true, Option.some.injEq] at h
            subst h
            have c2 : P.cellsOf t = k' := by simpa using c
            obtain ⟨xs, m', _, _, hl, hxl, hf⟩ := DataW.trod_struct ht hx
            rw [c2] at hl
            refine ⟨fun i v hv => ?_, hl⟩
            have hi : i < k' := by rw [← hl]; exact (List.getElem?_eq_some_iff.1 hv).1
            obtain ⟨p, hp, p1, p2⟩ := sumPc_in l 0 k' hk' i (Nat.zero_le _) hi
            obtain ⟨j, f, f1, f2, f3, f4⟩ := pcsF_in _ _ hl' p hp
            have f1' : fs[j]? = some f := by simpa using f1
            have hj : j < fs.size := (Array.getElem?_eq_some_iff.1 f1').1
            have h4 := hf j f f1'
            rw [f4, f2] at h4
            obtain ⟨y, hy⟩ : ∃ y, xs[j]? = some y := ⟨xs[j]'(by omega), List.getElem?_eq_getElem (by omega)⟩
            rw [hy] at h4
            obtain ⟨h5, _⟩ := u8T_ok n f.type m' _ y p.2 f3 h4
            refine h5 (i - p.1) v ?_
            rw [List.getElem?_take, if_pos (by omega), List.getElem?_drop, show p.1 + (i - p.1) = i by omega]
            exact hv
        · cases h
      · cases h
    · cases h

omit [Glo] in
theorem u8s_list : ∀ {cs : List Value}, U8s cs → ∃ ns : List Int, cs = ns.map (Value.int .u8) ∧ ∀ n ∈ ns, 0 ≤ n ∧ n < 256
  | [], _ => ⟨[], rfl, by simp⟩
  | v :: r, h => by
    obtain ⟨n, rfl, hw⟩ := h 0 v rfl
    obtain ⟨ns, e, hb⟩ := u8s_list (cs := r) fun i v hv => h (i + 1) v (by simpa using hv)
    refine ⟨n :: ns, by rw [e]; rfl, ?_⟩
    intro x hx
    rcases List.mem_cons.1 hx with rfl | hx
    · have := bounds_u8 hw; omega
    · exact hb x hx

omit [Glo] in
theorem argOk_bytes (w : World) (ns : List Int) : ArgOk w (.agg (ns.map (Value.int .u8)).toArray) (.agg (ns.map (LV.int .u8))) := by
  refine ⟨fun _ => [], [], fun _ => .agg (ns.map (AV.int .u8)), fun _ => rfl, fun ρ b _ => ⟨.agg ?_, fun i cs p h => by simp at h⟩, fun s b _ => .agg ?_⟩
  · show VRs ρ _ (ns.map (Value.int .u8)).toArray.toList
    simp only []
    induction ns with
    | nil => exact .nil
    | cons n r ih => exact .cons (.int _ _) ih
  · exact LRs.map _ fun x _ => .int _ _

omit [Glo] in
/-- A struct of bytes among the arguments. -/
theorem argOk_struct {r : Reach} {b0 n k : Nat} {t : TypeId} {fs : Array Field} {v : Value} {d : DataW H} {ps : List MemPlace} (ht : P.underlying t = some (.struct fs)) (hk : u8T P n t = some k)
    (hval : Value.okWide P w r b0 t v) (hd : DataW.Trod enc P w base sp held t v d ps) :
    ∃ ns : List Int, ns.length = k ∧ (∀ n ∈ ns, 0 ≤ n ∧ n < 256) ∧ ArgOk w v (.agg (ns.map (LV.int .u8))) := by
  obtain ⟨cs, rfl, _⟩ := Go.WideShapes.okWide_struct ht hval
  obtain ⟨fuel, hf⟩ := hd
  obtain ⟨h1, h2⟩ := u8T_ok n t fuel _ _ k hk hf
  obtain ⟨ns, e, hb⟩ := u8s_list h1
  have e' : cs = (ns.map (Value.int .u8)).toArray := by
    apply Array.ext'
    simpa [Value.cells] using e
  subst e'
  refine ⟨ns, ?_, hb, argOk_bytes w ns⟩
  simpa [Value.cells] using h2
end
end Go.Am


