import Derived.Test.YtheppipmnfjdcaaRingD3
import Derived.Test.YtheppipmnfjdcaaRingC29
import Derived.Test.YtheppipmnfjdcaaLaw1
import Derived.Carry
/-
  What functions of chapter 04 compute, outright 4: lists of two and three finds are tried.
-/
set_option linter.unusedVariables false
set_option linter.unusedSimpArgs false
set_option maxRecDepth 10000
set_option maxHeartbeats 1000000
namespace Go.Am.Ring
open Go.Am.G

abbrev xv (o : List Nat) : LV := IL false true 1 (ci o)
abbrev rowsE (T : List (List Nat)) : List LV := T.map xv
theorem tried1 (L : Nat) (hL : L ≤ 8) (X3 X4 X6 : LV) (a b : Nat) (j : Nat) : ∀ (c : Nat) (M : LMem) (v : LV) (T : List (List Nat)), c + j = L → T.length + j ≤ 10000 → Lst M v 1 T.length (rowsE T) →
    ∃ v' M', exF LP law04_RingProved.L1 [(3, X3), (4, X4), (6, X6), (12, v), (13, .int .i64 (a : Int)), (14, .int .i64 (b : Int)), (98, .int .i64 (L : Int)), (99, .int .i64 (a : Int)), (103, .int .i64 (L : Int)), (104, .int .i64 (b : Int)), (115, .int .i64 (L : Int)), (116, .int .i64 (c : Int))] M =
      some (.exit 6, [(3, X3), (4, X4), (6, X6), (12, v'), (13, .int .i64 (a : Int)), (98, .int .i64 (L : Int)), (99, .int .i64 (a : Int)), (103, .int .i64 (L : Int)), (104, .int .i64 (b : Int))], M') ∧
      Lst M' v' 1 (T ++ (List.range' c j).map fun q => [a, b, q]).length (rowsE (T ++ (List.range' c j).map fun q => [a, b, q])) := by
  induction j with
  | zero =>
    intro c M v T hc hT hL'
    refine ⟨v, M, ?_, by simpa using hL'⟩
    rw [law04_RingProved.L1_eq]
    simp only [law04_RingProved.B1, exF_seq, exF_region, exF_cond, exF_exit, runL, wantL, stepL, evL, LEnv.at, putL, loadFine, LEnv.keep, List.map_cons, List.map_nil, nbeq, bin_lss, Nat.reduceEqDiff, decide_true, decide_false, cond_true, cond_false, eq_self, show ¬ ((c : Int) < (L : Int)) by omega]
  | succ j ih =>
    intro c M v T hc hT hL'
    have hcc : (c : Int) < (L : Int) := by omega
    have hw := wrap_succ (show c + 1 < 9223372036854775808 by omega)
    obtain ⟨v2, m2, hap, hL2, _, _, _⟩ := hL'.append (x := .lst false true 1 1 [.lst false true 1 3 [.int .i64 (a : Int), .int .i64 (b : Int), .int .i64 (c : Int)]]) (k := 1) (news := [.lst false true 1 3 [.int .i64 (a : Int), .int .i64 (b : Int), .int .i64 (c : Int)]]) (bytes := 24) (by simp [contents, nbeq]) rfl (by omega) (by omega) rfl
    have hL2 : Lst m2 v2 1 (T ++ [[a, b, c]]).length (rowsE (T ++ [[a, b, c]])) := by
      have e : rowsE (T ++ [[a, b, c]]) = rowsE T ++ [.lst false true 1 3 [.int .i64 (a : Int), .int .i64 (b : Int), .int .i64 (c : Int)]] := by simp [rowsE]
      rw [e]; simpa using hL2
    obtain ⟨v', M', hex, hL3⟩ := ih (c + 1) m2 v2 (T ++ [[a, b, c]]) (by omega) (by simp; omega) hL2
    refine ⟨v', M', ?_, by rw [List.range'_succ, List.map_cons, List.append_cons]; exact hL3⟩
    rw [law04_RingProved.L1_eq]
    have hli := fun m => list_c (.lst false true 1 3 [.int .i64 (a : Int), .int .i64 (b : Int), .int .i64 (c : Int)]) rfl m
    simp only [law04_RingProved.B1, law04_RingProved.B1.R0, exF_seq, exF_region, exF_block, exF_cond, exF_skip, runL, wantL, stepL, evL, evC, LEnv.at, putL, loadFine, LEnv.keep, List.map_cons, List.map_nil, nbeq, nble, ofAV, ofAVs, bin_add, bin_lss, Bool.or_false, Bool.and_true, Nat.reduceEqDiff, decide_true, decide_false, cond_true, cond_false, Nat.reduceAdd, Nat.reduceLeDiff, reduceCtorEq, List.length_nil, List.length_cons, Nat.mul_one, eq_self, List.append_nil, List.nil_append, List.cons_append, views_pures, LV.pures, LV.pure, freeze, Nat.reduceDiv, LV.cells, spliceL, List.take_zero, List.take_succ_cons, List.drop_zero, List.drop_succ_cons, List.drop_nil, List.take_nil, Nat.le_refl, fillL, hcc, hli, hap, hw, hex]
/-- What is tried behind two finds. -/
def try2 (L a b : Nat) : List (List Nat) := [a, b] :: (List.range' 0 L).map fun q => [a, b, q]
theorem try2_len (L a b : Nat) : (try2 L a b).length = 1 + L := by simp [try2]; omega
theorem tried2 (L : Nat) (hL : L ≤ 8) (X3 X4 X6 : LV) (hX : lenL X4 = some L) (a : Nat) (j : Nat) : ∀ (b : Nat) (M : LMem) (v : LV) (T : List (List Nat)), b + j = L → T.length + j * 9 ≤ 10000 → Lst M v 1 T.length (rowsE T) →
    ∃ v' M', exF LP law04_RingProved.L2 [(3, X3), (4, X4), (6, X6), (12, v), (13, .int .i64 (a : Int)), (98, .int .i64 (L : Int)), (99, .int .i64 (a : Int)), (103, .int .i64 (L : Int)), (104, .int .i64 (b : Int))] M =
      some (.exit 4, [(3, X3), (4, X4), (6, X6), (12, v'), (98, .int .i64 (L : Int)), (99, .int .i64 (a : Int))], M') ∧
      Lst M' v' 1 (T ++ (List.range' b j).flatMap fun q => try2 L a q).length (rowsE (T ++ (List.range' b j).flatMap fun q => try2 L a q)) := by
  induction j with
  | zero =>
    intro b M v T hc hT hL'
    refine ⟨v, M, ?_, by simpa using hL'⟩
    rw [law04_RingProved.L2_eq]
    simp only [law04_RingProved.B2, exF_seq, exF_region, exF_cond, exF_exit, runL, wantL, stepL, evL, LEnv.at, putL, loadFine, LEnv.keep, List.map_cons, List.map_nil, nbeq, bin_lss, Nat.reduceEqDiff, decide_true, decide_false, cond_true, cond_false, eq_self, show ¬ ((b : Int) < (L : Int)) by omega]
  | succ j ih =>
    intro b M v T hc hT hL'
    have hcc : (b : Int) < (L : Int) := by omega
    have hw := wrap_succ (show b + 1 < 9223372036854775808 by omega)
    obtain ⟨v2, m2, hap, hL2, _, _, _⟩ := hL'.append (x := .lst false true 1 1 [.lst false true 1 2 [.int .i64 (a : Int), .int .i64 (b : Int)]]) (k := 1) (news := [.lst false true 1 2 [.int .i64 (a : Int), .int .i64 (b : Int)]]) (bytes := 24) (by simp [contents, nbeq]) rfl (by omega) (by omega) rfl
    have hL2 : Lst m2 v2 1 (T ++ [[a, b]]).length (rowsE (T ++ [[a, b]])) := by
      have e : rowsE (T ++ [[a, b]]) = rowsE T ++ [.lst false true 1 2 [.int .i64 (a : Int), .int .i64 (b : Int)]] := by simp [rowsE]
      rw [e]; simpa using hL2
    obtain ⟨v3, m3, h1, hL3⟩ := tried1 L hL X3 X4 X6 a b L 0 m2 v2 (T ++ [[a, b]]) (by omega) (by simp; omega) hL2
    have e : T ++ [[a, b]] ++ (List.range' 0 L).map (fun q => [a, b, q]) = T ++ try2 L a b := by simp [try2]
    rw [e] at hL3
    have htl := try2_len L a b
    obtain ⟨v', M', hex, hL4⟩ := ih (b + 1) m3 v3 (T ++ try2 L a b) (by omega) (by rw [List.length_append, htl]; omega) hL3
    refine ⟨v', M', ?_, by rw [List.range'_succ, List.flatMap_cons, ← List.append_assoc]; exact hL4⟩
    have hli := fun m => list_c (.lst false true 1 2 [.int .i64 (a : Int), .int .i64 (b : Int)]) rfl m
    simp only [Int.natCast_zero] at h1
    rw [law04_RingProved.L2_eq]
    simp only [law04_RingProved.B2, law04_RingProved.B2.R0, exF_seq, exF_region, exF_block, exF_cond, exF_skip, runL, wantL, stepL, evL, evC, LEnv.at, putL, loadFine, LEnv.keep, List.map_cons, List.map_nil, nbeq, nble, ofAV, ofAVs, bin_add, bin_lss, Bool.or_false, Bool.and_true, Nat.reduceEqDiff, decide_true, decide_false, cond_true, cond_false, Nat.reduceAdd, Nat.reduceLeDiff, reduceCtorEq, List.length_nil, List.length_cons, Nat.mul_one, eq_self, List.append_nil, List.nil_append, List.cons_append, views_pures, LV.pures, LV.pure, freeze, Nat.reduceDiv, LV.cells, spliceL, List.take_zero, List.take_succ_cons, List.drop_zero, List.drop_succ_cons, List.drop_nil, List.take_nil, Nat.le_refl, fillL, hcc, hli, hap, hX, h1, hw, hex]
theorem flat_len {f : Nat → List (List Nat)} {k : Nat} (hf : ∀ a, (f a).length = k) : ∀ l : List Nat, (l.flatMap f).length = l.length * k
  | [] => by simp
  | a :: l => by rw [List.flatMap_cons, List.length_append, flat_len hf l, hf, List.length_cons, Nat.add_mul, Nat.one_mul, Nat.add_comm]
def try1 (L a : Nat) : List (List Nat) := (List.range' 0 L).flatMap fun q => try2 L a q
theorem try1_len (L a : Nat) : (try1 L a).length = L * (1 + L) := by rw [try1, flat_len fun q => try2_len L a q, List.length_range']
theorem tried3 (L : Nat) (hL : L ≤ 8) (X3 X4 X6 : LV) (hX : lenL X4 = some L) (j : Nat) : ∀ (a : Nat) (M : LMem) (v : LV) (T : List (List Nat)), a + j = L → T.length + j * 72 ≤ 9000 → Lst M v 1 T.length (rowsE T) →
    ∃ v' M', exF LP law04_RingProved.L3 [(3, X3), (4, X4), (6, X6), (12, v), (98, .int .i64 (L : Int)), (99, .int .i64 (a : Int))] M =
      some (.exit 2, [(3, X3), (4, X4), (6, X6), (12, v')], M') ∧
      Lst M' v' 1 (T ++ (List.range' a j).flatMap fun q => try1 L q).length (rowsE (T ++ (List.range' a j).flatMap fun q => try1 L q)) := by
  induction j with
  | zero =>
    intro a M v T hc hT hL'
    refine ⟨v, M, ?_, by simpa using hL'⟩
    rw [law04_RingProved.L3_eq]
    simp only [law04_RingProved.B3, exF_seq, exF_region, exF_cond, exF_exit, runL, wantL, stepL, evL, LEnv.at, putL, loadFine, LEnv.keep, List.map_cons, List.map_nil, nbeq, bin_lss, Nat.reduceEqDiff, decide_true, decide_false, cond_true, cond_false, eq_self, show ¬ ((a : Int) < (L : Int)) by omega]
  | succ j ih =>
    intro a M v T hc hT hL'
    have hcc : (a : Int) < (L : Int) := by omega
    have hw := wrap_succ (show a + 1 < 9223372036854775808 by omega)
    obtain ⟨v3, m3, h1, hL3⟩ := tried2 L hL X3 X4 X6 hX a L 0 M v T (by omega) (by omega) hL'
    have htl := try1_len L a
    have h72 : L * (1 + L) ≤ 8 * 9 := Nat.mul_le_mul hL (by omega)
    obtain ⟨v', M', hex, hL4⟩ := ih (a + 1) m3 v3 (T ++ try1 L a) (by omega) (by rw [List.length_append, htl]; omega) hL3
    refine ⟨v', M', ?_, by rw [List.range'_succ, List.flatMap_cons, ← List.append_assoc]; exact hL4⟩
    simp only [Int.natCast_zero] at h1
    rw [law04_RingProved.L3_eq]
    simp only [law04_RingProved.B3, exF_seq, exF_region, exF_block, exF_cond, exF_skip, runL, wantL, stepL, evL, evC, LEnv.at, putL, loadFine, LEnv.keep, List.map_cons, List.map_nil, nbeq, bin_add, bin_lss, Nat.reduceEqDiff, decide_true, decide_false, cond_true, cond_false, eq_self, hcc, hX, h1, hw, hex]
def tryA (L : Nat) : List (List Nat) := (List.range' 0 L).flatMap fun q => try1 L q
theorem tryA_len (L : Nat) : (tryA L).length = L * (L * (1 + L)) := by rw [tryA, flat_len fun q => try1_len L q, List.length_range']
theorem tryA_mem {L : Nat} {x : List Nat} (h : x ∈ tryA L) : (∀ k ∈ x, k < L) ∧ ((∃ a b, x = [a, b]) ∨ ∃ a b c, x = [a, b, c]) := by
  obtain ⟨a, ha, h⟩ := List.mem_flatMap.1 h
  obtain ⟨b, hb, h⟩ := List.mem_flatMap.1 h
  have ha := (List.mem_range'_1.1 ha).2
  have hb := (List.mem_range'_1.1 hb).2
  rcases List.mem_cons.1 h with rfl | h
  · exact ⟨fun k hk => by simp at hk; omega, .inl ⟨a, b, rfl⟩⟩
  · obtain ⟨c, hc, rfl⟩ := List.mem_map.1 h
    have hc := (List.mem_range'_1.1 hc).2
    exact ⟨fun k hk => by simp at hk; omega, .inr ⟨a, b, c, rfl⟩⟩

/-! ### What is asked of each list -/
theorem chkO_nodup (L : Nat) : ∀ (r pre : List Nat), (∀ k ∈ r, k < L) → chkO (L : Int) (ci pre) (ci r) = if r.Nodup ∧ (∀ k ∈ r, k ∉ pre) then 0 else 6
  | [], pre, _ => by
    rw [if_pos ⟨List.nodup_nil, by simp⟩]; rfl
  | x :: r, pre, h => by
    have hx := h x (by simp)
    show chkO (L : Int) (ci pre) ((x : Int) :: ci r) = _
    rw [chkO, if_pos (show 0 ≤ (x : Int) ∧ (x : Int) < (L : Int) by omega)]
    have e : ci pre ++ [(x : Int)] = ci (pre ++ [x]) := by simp
    rw [e, chkO_nodup L r (pre ++ [x]) fun k hk => h k (by simp [hk])]
    by_cases c : x ∈ pre
    · rw [if_pos ((ci_mem pre x).2 c), if_neg (fun hh => hh.2 x (by simp) c)]
    · rw [if_neg (fun hh => c ((ci_mem pre x).1 hh))]
      congr 1
      rw [List.nodup_cons]
      apply propext
      constructor
      · rintro ⟨h1, h2⟩
        refine ⟨⟨fun hm => h2 x hm (by simp), h1⟩, fun k hk => ?_⟩
        rcases List.mem_cons.1 hk with rfl | hk
        · exact c
        · exact fun hp => h2 k hk (by simp [hp])
      · rintro ⟨⟨h1, h2⟩, h3⟩
        refine ⟨h2, fun k hk hp => ?_⟩
        rcases List.mem_append.1 hp with hp | hp
        · exact h3 k (by simp [hk]) hp
        · rw [List.mem_singleton.1 hp] at hk; exact h1 hk
def want (P : List (Nat × Nat)) (x : List Nat) : Int := if ¬ x.Nodup then 6 else if x ∈ allR P then 0 else 14
theorem prov_want {n : Nat} {P : List (Nat × Nat)} (G : Good n P) {x : List Nat} (hx : ∀ k ∈ x, k < P.length) : provV (n : Int) (P.map castP) (ci x) = want P x := by
  have h := chkO_nodup P.length x [] hx
  have h : chkO (P.length : Int) [] (ci x) = if x.Nodup ∧ (∀ k ∈ x, k ∉ []) then 0 else 6 := h
  unfold want
  by_cases c : x.Nodup
  · rw [if_pos ⟨c, by simp⟩] at h
    rw [provV_of G h, if_neg (show ¬ ¬ x.Nodup from fun hh => hh c)]
  · rw [if_neg (fun hh => c hh.1)] at h
    rw [if_pos c]
    unfold provV
    rw [chkF_of G, List.length_map, h, if_neg (by simp), if_pos (by omega)]
theorem allR_nodup {n : Nat} {P : List (Nat × Nat)} (G : Good n P) {x : List Nat} (h : x ∈ allR P) : x.Nodup := by
  have := ((allR_mem G x).1 h).1.nd
  rw [List.Nodup, List.pairwise_map] at this
  exact this.imp fun hne e => hne (by rw [e])
theorem two_nodup (a b : Nat) : [a, b].Nodup ↔ ¬ a = b := by simp
theorem three_nodup (a b c : Nat) : [a, b, c].Nodup ↔ ¬ (a = b ∨ c = a ∨ c = b) := by
  simp only [List.nodup_cons, List.mem_cons, List.not_mem_nil, or_false, not_or, List.nodup_nil, and_true, not_false_eq_true]
  constructor
  · rintro ⟨⟨h1, h2⟩, h3⟩; exact ⟨h1, fun e => h2 e.symm, fun e => h3 e.symm⟩
  · rintro ⟨h1, h2, h3⟩; exact ⟨⟨h1, fun e => h2 e.symm⟩, fun e => h3 e.symm⟩
theorem cast2 : ((2 : Nat) : Int) = 2 := rfl
theorem cast3 : ((3 : Nat) : Int) = 3 := rfl
section
variable {n : Nat} {P : List (Nat × Nat)} (G : Good n P) (nl ex : Bool) (sz : Nat) (X3 X6 X130 X131 X132 : LV) (at' : Int)
abbrev E4 (X3 FP X6 : LV) (at' : Int) (x : List Nat) (X130 X131 X132 : LV) : LEnv := [(3, X3), (4, FP), (6, X6), (16, .int .i64 at'), (17, xv x), (130, X130), (131, X131), (132, X132)]
include G
theorem r0_c (x : List Nat) (hx : ∀ k ∈ x, k < P.length) (hsh : (∃ a b, x = [a, b]) ∨ ∃ a b c, x = [a, b, c]) (M : LMem) :
    exF LP law04_RingProved.B4.R0 (E4 X3 (FN nl ex sz P) X6 at' x X130 X131 X132) M = some (.normal, [(3, X3), (4, FN nl ex sz P), (6, X6), (16, .int .i64 at'), (17, xv x), (18, .bool (decide (x ∈ allR P))), (130, X130), (131, X131), (132, X132)], M) := by
  have hl : x.length < 1000 := by rcases hsh with ⟨a, b, rfl⟩ | ⟨a, b, c, rfl⟩ <;> simp
  have hc := fun m => closes_c G nl ex false true sz x hx hl m
  by_cases d : x ∈ allR P
  · have hnd := allR_nodup G d
    rw [decide_eq_true d] at hc ⊢
    rcases hsh with ⟨a, b, rfl⟩ | ⟨a, b, c, rfl⟩
    · simp only [E4, xv, List.map_cons, List.map_nil, IL, List.length_cons, List.length_nil, Nat.zero_add, Nat.reduceAdd] at hc ⊢
      simp only [FN_eq] at hc ⊢
      simp only [law04_RingProved.B4.R0, beqT, beqF, exF_region, runL, wantL, stepL, evL, evC, LEnv.at, putL, loadFine, LEnv.keep, List.map_cons, List.map_nil, nbeq, ofAVs, lenL, bin_eql, Bool.not_true, Nat.reduceEqDiff, decide_true, decide_false, cond_true, cond_false, eq_self, List.append_nil, List.nil_append, cast2, hc]
    · have h3 := (three_nodup a b c).1 hnd
      have c1 : ¬ (c : Int) = (a : Int) := by omega
      have c2 : ¬ (c : Int) = (b : Int) := by omega
      simp only [E4, xv, List.map_cons, List.map_nil, IL, List.length_cons, List.length_nil, Nat.zero_add, Nat.reduceAdd] at hc ⊢
      simp only [FN_eq] at hc ⊢
      simp only [law04_RingProved.B4.R0, beqT, beqF, exF_region, runL, wantL, stepL, evL, evC, LEnv.at, putL, loadFine, loadL, cellsAt, Trk.putNew, Trk.up, Trk.touch, Trk.gives, Trk.calm, opdsOf, Trk.fresh, LEnv.keep, List.map_cons, List.map_nil, nbeq, nble, nblt, ofAVs, lenL, bin_eql, bin_neq, natL_zero, natL_one, natL_two, List.any_cons, List.any_nil, Bool.or_false, Bool.or_true, Bool.and_true, Bool.false_and, Bool.not_true, Bool.not_false, Nat.reduceEqDiff, decide_true, decide_false, cond_true, cond_false, List.filter_nil, List.filter_cons, Nat.reduceAdd, Nat.reduceLeDiff, reduceCtorEq, List.length_nil, List.length_cons, Nat.mul_one, if_true, eq_self, List.append_nil, List.nil_append, not_false_eq_true, ne_eq, Int.reduceEq, List.getElem?_cons_zero, List.getElem?_cons_succ, List.take_zero, List.take_succ_cons, List.drop_zero, List.drop_succ_cons, List.take_nil, Nat.le_refl, Nat.lt_add_one, Nat.reduceLT, cast3, hc, c1, c2]
  · rw [decide_eq_false d] at hc ⊢
    simp only [E4]
    generalize hX : xv x = X17 at *
    have hc : ∀ m, clF LP n_law04_closes [FN nl ex sz P, X17] m = some (.P, .bool false, m) := fun m => by rw [← hX]; exact hc m
    simp only [FN_eq] at hc ⊢
    simp only [law04_RingProved.B4.R0, beqT, exF_region, runL, wantL, stepL, evL, evC, LEnv.at, putL, loadFine, LEnv.keep, List.map_cons, List.map_nil, nbeq, ofAVs, Nat.reduceEqDiff, decide_true, decide_false, cond_true, cond_false, eq_self, List.append_nil, List.nil_append, hc]
omit G in
theorem r1_c (x r : List Nat) (hxl : x.length < 1000) (hrl : r.length < 1000) (d : Bool) (hd : d = true → r.length ≤ x.length ∧ (x.length = r.length → ¬ cmpL x r < 0)) (X4 : LV) (M : LMem) :
    exF LP law04_RingProved.B4.R1 [(3, X3), (4, X4), (6, IL false false 1 (ci r)), (16, .int .i64 at'), (17, xv x), (18, .bool d), (130, X130), (131, X131), (132, X132)] M = some (.normal, [(3, X3), (4, X4), (6, IL false false 1 (ci r)), (16, .int .i64 at'), (17, xv x), (18, .bool d), (130, X130), (131, X131), (132, X132), (183, .bool false)], M) := by
  have hc := fun m => compare_c false true false false 1 1 x r hxl hrl m
  have hlx := ci_len x
  have hlr := ci_len r
  simp only [xv, IL, hlx, hlr] at hc ⊢
  generalize (ci x).map (LV.int .i64) = rowx at *
  generalize (ci r).map (LV.int .i64) = rowr at *
  cases d
  · simp only [law04_RingProved.B4.R1, beqT, exF_region, runL, wantL, stepL, evL, evC, LEnv.at, putL, loadFine, LEnv.keep, List.map_cons, List.map_nil, nbeq, Nat.reduceEqDiff, decide_true, decide_false, cond_true, cond_false, eq_self]
  · obtain ⟨h1, h2⟩ := hd rfl
    have h1' : ¬ ((x.length : Nat) : Int) < ((r.length : Nat) : Int) := by omega
    by_cases e : x.length = r.length
    · have e' : ((x.length : Nat) : Int) = ((r.length : Nat) : Int) := by omega
      have h2 := h2 e
      simp only [law04_RingProved.B4.R1, beqT, beqF, exF_region, runL, wantL, stepL, evL, evC, LEnv.at, putL, loadFine, LEnv.keep, List.map_cons, List.map_nil, nbeq, ofAVs, lenL, bin_eql, bin_lss, Bool.not_false, Nat.reduceEqDiff, decide_true, decide_false, cond_true, cond_false, eq_self, List.append_nil, List.nil_append, e', hc, h2, Int.lt_irrefl]
    · have e' : ¬ ((x.length : Nat) : Int) = ((r.length : Nat) : Int) := by omega
      simp only [law04_RingProved.B4.R1, beqT, beqF, exF_region, runL, wantL, stepL, evL, evC, LEnv.at, putL, loadFine, LEnv.keep, List.map_cons, List.map_nil, nbeq, lenL, bin_eql, bin_lss, Bool.not_false, Nat.reduceEqDiff, decide_true, decide_false, cond_true, cond_false, eq_self, h1', e']
omit G in
theorem r2_c (x : List Nat) (hsh : (∃ a b, x = [a, b]) ∨ ∃ a b c, x = [a, b, c]) (X4 X19 : LV) (tl : LEnv) (M : LMem) :
    exF LP law04_RingProved.B4.R2 ((3, X3) :: (4, X4) :: (6, X6) :: (16, .int .i64 at') :: (17, xv x) :: (19, X19) :: (130, X130) :: (131, X131) :: (132, X132) :: tl) M = some (.normal, [(3, X3), (4, X4), (6, X6), (16, .int .i64 at'), (17, xv x), (19, X19), (130, X130), (131, X131), (132, X132), (214, .bool (decide ¬ x.Nodup))], M) := by
  rcases hsh with ⟨a, b, rfl⟩ | ⟨a, b, c, rfl⟩
  · have hn := two_nodup a b
    simp only [xv, List.map_cons, List.map_nil, IL, List.length_cons, List.length_nil, Nat.zero_add, Nat.reduceAdd]
    by_cases e : a = b
    · have e' : (a : Int) = (b : Int) := by omega
      rw [decide_eq_true (show ¬ [a, b].Nodup from fun h => hn.1 h e)]
      simp only [law04_RingProved.B4.R2, beqF, exF_region, runL, wantL, stepL, evL, evC, LEnv.at, putL, loadFine, loadL, cellsAt, Trk.putNew, Trk.up, Trk.touch, Trk.gives, Trk.calm, opdsOf, Trk.fresh, LEnv.keep, List.map_cons, List.map_nil, nbeq, nble, nblt, bin_eql, natL_zero, natL_one, List.any_cons, List.any_nil, Bool.or_false, Bool.or_true, Bool.and_true, Bool.false_and, Bool.not_true, Bool.not_false, Nat.reduceEqDiff, decide_true, decide_false, cond_true, cond_false, List.filter_nil, Nat.reduceAdd, Nat.reduceLeDiff, reduceCtorEq, List.length_nil, List.length_cons, Nat.mul_one, eq_self, List.getElem?_cons_zero, List.getElem?_cons_succ, List.take_zero, List.take_succ_cons, List.drop_zero, List.drop_succ_cons, List.take_nil, Nat.le_refl, Nat.lt_add_one, Nat.reduceLT, e']
    · have e' : ¬ (a : Int) = (b : Int) := by omega
      rw [decide_eq_false (show ¬ ¬ [a, b].Nodup from fun h => h (hn.2 e))]
      simp only [law04_RingProved.B4.R2, beqT, beqF, exF_region, runL, wantL, stepL, evL, evC, LEnv.at, putL, loadFine, loadL, cellsAt, Trk.putNew, Trk.up, Trk.touch, Trk.gives, Trk.calm, opdsOf, Trk.fresh, LEnv.keep, List.map_cons, List.map_nil, nbeq, nble, nblt, lenL, bin_eql, natL_zero, natL_one, List.any_cons, List.any_nil, Bool.or_false, Bool.or_true, Bool.and_true, Bool.false_and, Bool.not_true, Bool.not_false, Nat.reduceEqDiff, decide_true, decide_false, cond_true, cond_false, List.filter_nil, Nat.reduceAdd, Nat.reduceLeDiff, reduceCtorEq, List.length_nil, List.length_cons, Nat.mul_one, eq_self, Int.reduceEq, List.getElem?_cons_zero, List.getElem?_cons_succ, List.take_zero, List.take_succ_cons, List.drop_zero, List.drop_succ_cons, List.take_nil, Nat.le_refl, Nat.lt_add_one, Nat.reduceLT, cast2, e']
  · have hn := three_nodup a b c
    simp only [xv, List.map_cons, List.map_nil, IL, List.length_cons, List.length_nil, Nat.zero_add, Nat.reduceAdd]
    by_cases e : a = b
    · have e' : (a : Int) = (b : Int) := by omega
      rw [decide_eq_true (show ¬ [a, b, c].Nodup from fun h => hn.1 h (.inl e))]
      simp only [law04_RingProved.B4.R2, beqF, exF_region, runL, wantL, stepL, evL, evC, LEnv.at, putL, loadFine, loadL, cellsAt, Trk.putNew, Trk.up, Trk.touch, Trk.gives, Trk.calm, opdsOf, Trk.fresh, LEnv.keep, List.map_cons, List.map_nil, nbeq, nble, nblt, bin_eql, natL_zero, natL_one, List.any_cons, List.any_nil, Bool.or_false, Bool.or_true, Bool.and_true, Bool.false_and, Bool.not_true, Bool.not_false, Nat.reduceEqDiff, decide_true, decide_false, cond_true, cond_false, List.filter_nil, Nat.reduceAdd, Nat.reduceLeDiff, reduceCtorEq, List.length_nil, List.length_cons, Nat.mul_one, eq_self, List.getElem?_cons_zero, List.getElem?_cons_succ, List.take_zero, List.take_succ_cons, List.drop_zero, List.drop_succ_cons, Nat.le_refl, Nat.reduceLT, e']
    · have e' : ¬ (a : Int) = (b : Int) := by omega
      by_cases e1 : c = a
      · have e1' : (c : Int) = (a : Int) := by omega
        rw [decide_eq_true (show ¬ [a, b, c].Nodup from fun h => hn.1 h (.inr (.inl e1)))]
        subst e1
        simp only [law04_RingProved.B4.R2, beqT, beqF, exF_region, runL, wantL, stepL, evL, evC, LEnv.at, putL, loadFine, loadL, cellsAt, Trk.putNew, Trk.up, Trk.touch, Trk.gives, Trk.calm, opdsOf, Trk.fresh, LEnv.keep, List.map_cons, List.map_nil, nbeq, nble, nblt, lenL, bin_eql, natL_zero, natL_one, natL_two, List.any_cons, List.any_nil, Bool.or_false, Bool.or_true, Bool.and_true, Bool.false_and, Bool.not_true, Bool.not_false, Nat.reduceEqDiff, decide_true, decide_false, cond_true, cond_false, List.filter_nil, Nat.reduceAdd, Nat.reduceLeDiff, reduceCtorEq, List.length_nil, List.length_cons, Nat.mul_one, eq_self, List.getElem?_cons_zero, List.getElem?_cons_succ, List.take_zero, List.take_succ_cons, List.drop_zero, List.drop_succ_cons, List.take_nil, Nat.le_refl, Nat.lt_add_one, Nat.reduceLT, cast3, e']
      · have e1' : ¬ (c : Int) = (a : Int) := by omega
        by_cases e2 : c = b
        · rw [decide_eq_true (show ¬ [a, b, c].Nodup from fun h => hn.1 h (.inr (.inr e2)))]
          subst e2
          simp only [law04_RingProved.B4.R2, beqT, beqF, exF_region, runL, wantL, stepL, evL, evC, LEnv.at, putL, loadFine, loadL, cellsAt, Trk.putNew, Trk.up, Trk.touch, Trk.gives, Trk.calm, opdsOf, Trk.fresh, LEnv.keep, List.map_cons, List.map_nil, nbeq, nble, nblt, lenL, bin_eql, natL_zero, natL_one, natL_two, List.any_cons, List.any_nil, Bool.or_false, Bool.or_true, Bool.and_true, Bool.false_and, Bool.not_true, Bool.not_false, Nat.reduceEqDiff, decide_true, decide_false, cond_true, cond_false, List.filter_nil, Nat.reduceAdd, Nat.reduceLeDiff, reduceCtorEq, List.length_nil, List.length_cons, Nat.mul_one, eq_self, List.getElem?_cons_zero, List.getElem?_cons_succ, List.take_zero, List.take_succ_cons, List.drop_zero, List.drop_succ_cons, List.take_nil, Nat.le_refl, Nat.lt_add_one, Nat.reduceLT, cast3, e', e1']
        · have e2' : ¬ (c : Int) = (b : Int) := by omega
          rw [decide_eq_false (show ¬ ¬ [a, b, c].Nodup from fun h => h (hn.2 (by rintro (h | h | h) <;> contradiction)))]
          simp only [law04_RingProved.B4.R2, beqT, beqF, exF_region, runL, wantL, stepL, evL, evC, LEnv.at, putL, loadFine, loadL, cellsAt, Trk.putNew, Trk.up, Trk.touch, Trk.gives, Trk.calm, opdsOf, Trk.fresh, LEnv.keep, List.map_cons, List.map_nil, nbeq, nble, nblt, lenL, bin_eql, natL_zero, natL_one, natL_two, List.any_cons, List.any_nil, Bool.or_false, Bool.or_true, Bool.and_true, Bool.false_and, Bool.not_true, Bool.not_false, Nat.reduceEqDiff, decide_true, decide_false, cond_true, cond_false, List.filter_nil, Nat.reduceAdd, Nat.reduceLeDiff, reduceCtorEq, List.length_nil, List.length_cons, Nat.mul_one, eq_self, List.getElem?_cons_zero, List.getElem?_cons_succ, List.take_zero, List.take_succ_cons, List.drop_zero, List.drop_succ_cons, List.take_nil, Nat.le_refl, Nat.lt_add_one, Nat.reduceLT, cast3, e', e1', e2']
theorem r3_c (x : List Nat) (hx : ∀ k ∈ x, k < P.length) (hxl : x.length < 1000) (M : LMem) (tl : LEnv) :
    exF LP law04_RingProved.B4.R3 ((3, .int .i64 (n : Int)) :: (4, FN nl ex sz P) :: (6, X6) :: (16, .int .i64 at') :: (17, xv x) :: (19, .int .i64 (want P x)) :: (130, X130) :: (131, X131) :: (132, X132) :: tl) M = some (.normal, [(3, .int .i64 (n : Int)), (4, FN nl ex sz P), (6, X6), (130, X130), (131, X131), (132, X132), (228, .bool false)], M) := by
  have hc := fun m => proves_c G nl ex false true sz (ci x) (by rw [ci_len]; exact hxl) m
  rw [prov_want G hx] at hc
  have r1 : binL .rem (.int .i64 at') (.int .i64 5) = some (.int .i64 (at'.tmod 5)) := bin_rem (k := .i64) (a := at') (b := 5) (by omega)
  have r2 : binL .rem (.int .i64 (P.length : Int)) (.int .i64 5) = some (.int .i64 ((P.length : Int).tmod 5)) := bin_rem (k := .i64) (a := (P.length : Int)) (b := 5) (by omega)
  have hX : IL false true 1 (ci x) = xv x := rfl
  rw [hX] at hc
  generalize xv x = X17 at *
  generalize want P x = w at *
  simp only [FN_eq] at hc ⊢
  by_cases e : at'.tmod 5 = (P.length : Int).tmod 5
  · simp only [law04_RingProved.B4.R3, beqT, exF_region, runL, wantL, stepL, evL, evC, LEnv.at, putL, loadFine, LEnv.keep, List.map_cons, List.map_nil, nbeq, ofAVs, lenL, bin_eql, bin_neq, Nat.reduceEqDiff, decide_true, decide_false, cond_true, cond_false, eq_self, List.append_nil, List.nil_append, not_true_eq_false, ne_eq, r1, r2, e, hc]
  · simp only [law04_RingProved.B4.R3, beqT, exF_region, runL, wantL, stepL, evL, evC, LEnv.at, putL, loadFine, LEnv.keep, List.map_cons, List.map_nil, nbeq, lenL, bin_eql, Nat.reduceEqDiff, decide_true, decide_false, cond_true, cond_false, eq_self, r1, r2, e]
end
end Go.Am.Ring

/-
  What functions of chapter 04 compute, outright 5: the law RingProved.
-/
set_option linter.unusedVariables false
set_option linter.unusedSimpArgs false
set_option maxRecDepth 10000
set_option maxHeartbeats 1000000
namespace Go.Am.Ring
open Go.Am.G

theorem tried4 {n : Nat} {P : List (Nat × Nat)} (G : Good n P) (nl ex : Bool) (sz : Nat) (r : List Nat) (hrl : r.length < 1000) (hmin : ∀ x ∈ allR P, r.length ≤ x.length ∧ (x.length = r.length → ¬ cmpL x r < 0)) (T : List (List Nat)) (hTl : T.length < 1000000) (hT : ∀ x ∈ T, (∀ k ∈ x, k < P.length) ∧ ((∃ a b, x = [a, b]) ∨ ∃ a b c, x = [a, b, c]))
    (M : LMem) (v : LV) (hL : Lst M v 1 T.length (rowsE T)) (j : Nat) : ∀ k, k + j = T.length →
    exF LP law04_RingProved.L4 [(3, .int .i64 (n : Int)), (4, FN nl ex sz P), (6, IL false false 1 (ci r)), (130, v), (131, .int .i64 (T.length : Int)), (132, .int .i64 (k : Int))] M = some (.exit 8, [], M) := by
  induction j with
  | zero =>
    intro k hk
    rw [law04_RingProved.L4_eq]
    simp only [law04_RingProved.B4, exF_seq, exF_region, exF_cond, exF_exit, runL, wantL, stepL, evL, LEnv.at, putL, loadFine, LEnv.keep, List.map_cons, List.map_nil, nbeq, bin_lss, Nat.reduceEqDiff, decide_true, decide_false, cond_true, cond_false, eq_self, show ¬ ((k : Int) < (T.length : Int)) by omega]
  | succ j ih =>
    intro k hk
    have h2 : k < T.length := by omega
    have hkk : (k : Int) < (T.length : Int) := by omega
    have hw := wrap_succ (show k + 1 < 9223372036854775808 by omega)
    have ih := ih (k + 1) (by omega)
    obtain ⟨hx, hsh⟩ := hT _ (List.getElem_mem h2)
    have hxl : T[k].length < 1000 := by rcases hsh with ⟨a, b, e⟩ | ⟨a, b, c, e⟩ <;> rw [e] <;> simp
    have ra : (rowsE T)[k]? = some (xv T[k]) := by rw [List.getElem?_map, List.getElem?_eq_getElem h2]; rfl
    have h0 := r0_c G nl ex sz (.int .i64 (n : Int)) (IL false false 1 (ci r)) v (.int .i64 (T.length : Int)) (.int .i64 (k : Int)) (k : Int) T[k] hx hsh M
    have h1 := r1_c (.int .i64 (n : Int)) v (.int .i64 (T.length : Int)) (.int .i64 (k : Int)) (k : Int) T[k] r hxl hrl (decide (T[k] ∈ allR P)) (fun h => hmin _ (by simpa using h)) (FN nl ex sz P) M
    have h22 := fun tl => r2_c (.int .i64 (n : Int)) (IL false false 1 (ci r)) v (.int .i64 (T.length : Int)) (.int .i64 (k : Int)) (k : Int) T[k] hsh (FN nl ex sz P) (.int .i64 (if T[k] ∈ allR P then 0 else 14)) tl M
    have h3 := fun tl => r3_c G nl ex sz (IL false false 1 (ci r)) v (.int .i64 (T.length : Int)) (.int .i64 (k : Int)) (k : Int) T[k] hx hxl M tl
    simp only [E4] at h0
    have hnd : T[k] ∈ allR P → T[k].Nodup := allR_nodup G
    have hacc : ∃ a, stepL [(3, LV.int .i64 (n : Int)), (4, FN nl ex sz P), (6, IL false false 1 (ci r)), (130, v), (131, .int .i64 (T.length : Int)), (132, .int .i64 (k : Int))] M (.mov (.t 130)) = some (a, M) := ⟨_, rfl⟩
    rw [law04_RingProved.L4_eq]
    generalize hX17 : xv T[k] = X17 at *
    generalize FN nl ex sz P = FP at *
    generalize IL false false 1 (ci r) = RV at *
    have hwant : ∀ d e : Bool, decide (T[k] ∈ allR P) = d → decide (¬ T[k].Nodup) = e → (want P T[k] = if e = true then 6 else if d = true then 0 else 14) ∧ (d = true → e = false) := by
      rintro d e rfl rfl
      unfold want
      simp only [decide_eq_true_eq, decide_eq_false_iff_not, Decidable.not_not]
      exact ⟨trivial, hnd⟩
    generalize hd : decide (T[k] ∈ allR P) = d at *
    generalize he : decide (¬ T[k].Nodup) = e at *
    obtain ⟨hwv, hde⟩ := hwant d e rfl rfl
    have hif : (if T[k] ∈ allR P then (0 : Int) else 14) = if d = true then 0 else 14 := by rw [← hd]; simp only [decide_eq_true_eq]
    simp only [hif] at h22
    simp only [hwv] at h3
    have hrl2 : (rowsE T).length = T.length := by simp
    rcases hL with ⟨nl', ex', z, rfl, _⟩ | ⟨b, rfl, hb, _, _⟩
    · generalize rowsE T = RT at *
      cases d
      · cases e
        · rw [if_neg (by simp), if_neg (by simp)] at h3
          simp only [Bool.false_eq_true, if_false] at h22
          simp only [law04_RingProved.B4, exF_seq, exF_region, exF_block, exF_cond, exF_skip, runL, wantL, stepL, evL, evC, LEnv.at, putL, loadFine, loadL, cellsAt, Trk.putNew, Trk.up, Trk.touch, Trk.gives, Trk.calm, opdsOf, Trk.fresh, LEnv.keep, List.map_cons, List.map_nil, nbeq, nble, nblt, bin_add, bin_lss, natL_nat, List.any_cons, List.any_nil, Bool.or_false, Bool.or_true, Bool.and_true, Bool.false_and, Bool.not_true, Bool.not_false, Nat.reduceEqDiff, decide_true, decide_false, cond_true, cond_false, List.filter_nil, Nat.reduceAdd, Nat.reduceLeDiff, Nat.mul_one, eq_self, Nat.mul_one, hkk, h2, ra, h0, h1, h22, h3, hw, ih]
        · rw [if_pos rfl] at h3
          simp only [Bool.false_eq_true, if_false] at h22
          simp only [law04_RingProved.B4, exF_seq, exF_region, exF_block, exF_cond, exF_skip, runL, wantL, stepL, evL, evC, LEnv.at, putL, loadFine, loadL, cellsAt, Trk.putNew, Trk.up, Trk.touch, Trk.gives, Trk.calm, opdsOf, Trk.fresh, LEnv.keep, List.map_cons, List.map_nil, nbeq, nble, nblt, bin_add, bin_lss, natL_nat, List.any_cons, List.any_nil, Bool.or_false, Bool.or_true, Bool.and_true, Bool.false_and, Bool.not_true, Bool.not_false, Nat.reduceEqDiff, decide_true, decide_false, cond_true, cond_false, List.filter_nil, Nat.reduceAdd, Nat.reduceLeDiff, Nat.mul_one, eq_self, Nat.mul_one, hkk, h2, ra, h0, h1, h22, h3, hw, ih]
      · obtain rfl := hde rfl
        simp only [Bool.false_eq_true, if_false, if_true] at h3
        simp only [if_true] at h22
        simp only [law04_RingProved.B4, exF_seq, exF_region, exF_block, exF_cond, exF_skip, runL, wantL, stepL, evL, evC, LEnv.at, putL, loadFine, loadL, cellsAt, Trk.putNew, Trk.up, Trk.touch, Trk.gives, Trk.calm, opdsOf, Trk.fresh, LEnv.keep, List.map_cons, List.map_nil, nbeq, nble, nblt, bin_add, bin_lss, natL_nat, List.any_cons, List.any_nil, Bool.or_false, Bool.or_true, Bool.and_true, Bool.false_and, Bool.not_true, Bool.not_false, Nat.reduceEqDiff, decide_true, decide_false, cond_true, cond_false, List.filter_nil, Nat.reduceAdd, Nat.reduceLeDiff, Nat.mul_one, eq_self, Nat.mul_one, hkk, h2, ra, h0, h1, h22, h3, hw, ih]
    · have hbl : ¬ M.length ≤ b := by have := get_lt hb; omega
      simp only [Nat.mul_one] at h0 h1 h22 h3 ih ⊢
      generalize rowsE T = RT at *
      cases d
      · cases e
        · rw [if_neg (by simp), if_neg (by simp)] at h3
          simp only [Bool.false_eq_true, if_false] at h22
          simp only [law04_RingProved.B4, exF_seq, exF_region, exF_block, exF_cond, exF_skip, runL, wantL, stepL, evL, evC, LEnv.at, putL, loadFine, loadL, cellsAt, Trk.putNew, Trk.up, Trk.touch, Trk.gives, Trk.calm, Trk.hit, opdsOf, Trk.fresh, LEnv.keep, List.map_cons, List.map_nil, nbeq, nble, nblt, bin_add, bin_lss, natL_nat, List.any_cons, List.any_nil, Bool.or_false, Bool.or_true, Bool.and_true, Bool.false_and, Bool.not_true, Bool.not_false, Nat.reduceEqDiff, decide_true, decide_false, cond_true, cond_false, List.filter_nil, Nat.reduceAdd, Nat.reduceLeDiff, Nat.mul_one, eq_self, Nat.mul_one, Nat.zero_add, hkk, h2, hbl, hb, hrl2, ra, h0, h1, h22, h3, hw, ih]
        · rw [if_pos rfl] at h3
          simp only [Bool.false_eq_true, if_false] at h22
          simp only [law04_RingProved.B4, exF_seq, exF_region, exF_block, exF_cond, exF_skip, runL, wantL, stepL, evL, evC, LEnv.at, putL, loadFine, loadL, cellsAt, Trk.putNew, Trk.up, Trk.touch, Trk.gives, Trk.calm, Trk.hit, opdsOf, Trk.fresh, LEnv.keep, List.map_cons, List.map_nil, nbeq, nble, nblt, bin_add, bin_lss, natL_nat, List.any_cons, List.any_nil, Bool.or_false, Bool.or_true, Bool.and_true, Bool.false_and, Bool.not_true, Bool.not_false, Nat.reduceEqDiff, decide_true, decide_false, cond_true, cond_false, List.filter_nil, Nat.reduceAdd, Nat.reduceLeDiff, Nat.mul_one, eq_self, Nat.mul_one, Nat.zero_add, hkk, h2, hbl, hb, hrl2, ra, h0, h1, h22, h3, hw, ih]
      · obtain rfl := hde rfl
        simp only [Bool.false_eq_true, if_false, if_true] at h3
        simp only [if_true] at h22
        simp only [law04_RingProved.B4, exF_seq, exF_region, exF_block, exF_cond, exF_skip, runL, wantL, stepL, evL, evC, LEnv.at, putL, loadFine, loadL, cellsAt, Trk.putNew, Trk.up, Trk.touch, Trk.gives, Trk.calm, Trk.hit, opdsOf, Trk.fresh, LEnv.keep, List.map_cons, List.map_nil, nbeq, nble, nblt, bin_add, bin_lss, natL_nat, List.any_cons, List.any_nil, Bool.or_false, Bool.or_true, Bool.and_true, Bool.false_and, Bool.not_true, Bool.not_false, Nat.reduceEqDiff, decide_true, decide_false, cond_true, cond_false, List.filter_nil, Nat.reduceAdd, Nat.reduceLeDiff, Nat.mul_one, eq_self, Nat.mul_one, Nat.zero_add, hkk, h2, hbl, hb, hrl2, ra, h0, h1, h22, h3, hw, ih]
theorem rin_loop (X3 X4 : LV) (L : Nat) (hX : lenL X4 = some L) (r : List Nat) (hr : ∀ k ∈ r, k < L) (hrl : r.length < 1000) (M : LMem) (j : Nat) : ∀ k, k + j = r.length →
    exF LP law04_RingProved.L0 [(3, X3), (4, X4), (6, IL false false 1 (ci r)), (71, IL false false 1 (ci r)), (72, .int .i64 (r.length : Int)), (73, .int .i64 (k : Int))] M = some (.exit 0, [(3, X3), (4, X4), (6, IL false false 1 (ci r))], M) := by
  have hcl := ci_len r
  induction j with
  | zero =>
    intro k hk
    rw [law04_RingProved.L0_eq]
    simp only [IL, hcl]
    generalize (ci r).map (LV.int .i64) = row at *
    simp only [law04_RingProved.B0, exF_seq, exF_region, exF_cond, exF_exit, runL, wantL, stepL, evL, LEnv.at, putL, loadFine, LEnv.keep, List.map_cons, List.map_nil, nbeq, bin_lss, Nat.reduceEqDiff, decide_true, decide_false, cond_true, cond_false, eq_self, show ¬ ((k : Int) < (r.length : Int)) by omega]
  | succ j ih =>
    intro k hk
    have h2 : k < r.length := by omega
    have hkk : (k : Int) < (r.length : Int) := by omega
    have hw := wrap_succ (show k + 1 < 9223372036854775808 by omega)
    have ih := ih (k + 1) (by omega)
    have hat : (ci r).map (LV.int .i64) = r.map fun y : Nat => LV.int .i64 (y : Int) := by simp
    have b0 := nat_at .i64 r k h2
    rw [← hat] at b0
    have hk1 := hr _ (List.getElem_mem h2)
    have n1 : ¬ ((r[k] : Nat) : Int) < 0 := by omega
    have n2 : ¬ (L : Int) ≤ ((r[k] : Nat) : Int) := by omega
    rw [law04_RingProved.L0_eq]
    simp only [IL, hcl] at ih ⊢
    generalize (ci r).map (LV.int .i64) = row at *
    simp only [law04_RingProved.B0, law04_RingProved.B0.R0, beqF, exF_seq, exF_region, exF_block, exF_cond, exF_skip, runL, wantL, stepL, evL, evC, LEnv.at, putL, loadFine, loadL, cellsAt, Trk.putNew, Trk.up, Trk.touch, Trk.gives, Trk.calm, opdsOf, Trk.fresh, LEnv.keep, List.map_cons, List.map_nil, nbeq, nble, nblt, bin_add, bin_lss, bin_geq, natL_nat, List.any_cons, List.any_nil, Bool.or_false, Bool.or_true, Bool.and_true, Bool.false_and, Bool.not_true, Bool.not_false, Nat.reduceEqDiff, decide_true, decide_false, cond_true, cond_false, List.filter_nil, Nat.reduceAdd, Nat.reduceLeDiff, Nat.mul_one, eq_self, hkk, h2, b0, n1, hX, n2, hw, ih]
theorem proved_law (f k : Nat) (hf : f < 256) (hk : k < 256) (bs : List Nat) (hb : bs.length = 24) (hbs : ∀ x ∈ bs, x < 256) :
    clF LP n_law04_RingProved [.agg (bys (f :: k :: bs))] [] = some (.P, .bool true, []) := by
  obtain ⟨a, b, z, hv, hmade⟩ := made_c f k hf hk bs hb hbs 5 8 (by omega) (by omega)
  have hn : 2 ≤ 2 + f % (5 - 1) ∧ 2 + f % (5 - 1) ≤ 6 := by omega
  have hkk : k % (8 + 1) ≤ 8 := by omega
  have G := made_good hn.1 hn.2 bs (i := k % (8 + 1)) (by omega)
  have hPl := madeP_len (2 + f % (5 - 1)) bs (k % (8 + 1))
  generalize madeP (2 + f % (5 - 1)) bs (k % (8 + 1)) = P at *
  generalize (2 + f % (5 - 1) : Nat) = n at *
  have hlen : (bys (f :: k :: bs)).length = 26 := by simp [hb]
  have htk : (bys (f :: k :: bs)).take 26 = bys (f :: k :: bs) := List.take_of_length_le (by rw [hlen]; exact Nat.le_refl _)
  have hPL : P.length ≤ 8 := by omega
  have hshl := bits_shl (show P.length < 64 by omega)
  have hp := Nat.pow_pos (a := 2) (n := P.length) (by omega)
  have hp8 : 2 ^ P.length ≤ 2 ^ 8 := Nat.pow_le_pow_right (by omega) hPL
  have hsub := bits_pred (a := 2 ^ P.length) (by omega) hp
  have hF := fun m => fewest_c n P G a b z m
  have hFe : (fwD anyM P n 0).1 = FW n P := rfl
  rw [hFe] at hF
  have hR := fun m => ring_c G a b z m
  have hrg := fun m => ringless_c G a b z (2 ^ P.length - 1) (by omega) m
  rw [subP_all] at hrg
  have hno := no_ring G
  have e5 : ((5 : Nat) : Int) = 5 := rfl
  have e8 : ((8 : Nat) : Int) = 8 := rfl
  rw [e5, e8] at hmade
  have hpu : LV.pures [.agg (bys (f :: k :: bs))] = true := by simp only [LV.pures, LV.pure, pures_int, Bool.and_self]
  generalize bys (f :: k :: bs) = W at *
  have hlP : lenL (FN a b z P) = some P.length := by rw [FN_eq]; rfl
  unfold ringV at hR
  cases hm : minR P with
  | none =>
    rw [hm] at hR
    have hA : allR P = [] := by
      match hA : allR P with
      | [] => rfl
      | o :: l => rw [minR_cons hA] at hm; cases hm
    have hFW : (FW n P : Int) = 0 := by have := hno.1 hA; omega
    rw [decide_eq_true hA] at hrg
    refine call_P lp_law04_RingProved rfl hpu (m1 := [⟨W, true⟩]) ?_ rfl []
    generalize (2 ^ P.length - 1 : Nat) = ev at *
    generalize (2 ^ P.length : Nat) = pw at *
    generalize FN a b z P = FP at *
    generalize (FW n P : Nat) = fw at *
    simp only [law04_RingProved, law04_RingProved.B, law04_RingProved.B.R0, law04_RingProved.B.R1, law04_RingProved.B.R2, law04_RingProved.B.R3, law04_RingProved.B.R4]
    repeat (rw [exF_seq]; try simp only [exF_seq, exF_region, exF_cond, exF_ret, exF_skip, runL, wantL, stepL, evL, evC, LEnv.at, putL, loadFine, loadL, cellsAt, Trk.calm, Trk.hit, LEnv.keep, LEnv.ofFrom, List.map_cons, List.map_nil, nbeq, nble, ofAVs, bin_eql, bin_neq, List.any_nil, Bool.or_false, Bool.or_true, Bool.and_true, Bool.false_and, Bool.not_true, Bool.not_false, Nat.reduceEqDiff, decide_true, decide_false, cond_true, cond_false, Nat.reduceAdd, Nat.reduceLeDiff, reduceCtorEq, List.length_nil, List.length_cons, eq_self, retL, resultsL, resAllL, resOfL, List.append_nil, List.nil_append, not_true_eq_false, not_false_eq_true, ne_eq, Int.reduceEq, Int.natCast_zero, LV.cells, allocL, List.getElem?_cons_zero, List.getElem?_cons_succ, List.drop_zero, Nat.le_refl, lenL_lst, hlen, htk, hmade, hlP, hshl, hsub, hR, hF, hFW, hrg, works_c, Bool.xor_self, BEq.rfl])
  | some r =>
    have hR : ∀ m, clF LP n_ring_Ring [.int .i64 (n : Int), FN a b z P] m = some (.P, .tup [IL false false 1 (ci r), .int .i64 0], m) := fun m => by
      have := hR m
      rw [hm] at this
      exact this
    have hr := minR_mem hm
    have hrc := ((allR_mem G r).1 hr).1
    have hB : Beg n P r := ⟨hrc.ne, hrc.lt, hrc.nd⟩
    have hrl := hB.len G
    have hA : ¬ allR P = [] := fun e => by rw [e] at hr; simp at hr
    have hFW : ¬ (FW n P : Int) = 0 := fun e => hA (hno.2 (by omega))
    rw [decide_eq_false hA] at hrg
    have hclo := fun m => closes_c G a b false false z r hrc.lt (by omega) m
    rw [decide_eq_true hr] at hclo
    have hprov := fun m => proves_c G a b false false z (ci r) (by rw [ci_len]; omega) m
    rw [prov_want G hrc.lt] at hprov
    have hwant : want P r = 0 := by
      unfold want
      rw [if_neg (show ¬ ¬ r.Nodup from fun h => h (allR_nodup G hr)), if_pos hr]
    rw [hwant] at hprov
    have hl0 := fun M => rin_loop (.int .i64 (n : Int)) (FN a b z P) P.length hlP r hrc.lt (by omega) M r.length 0 (by omega)
    have h3 := fun M => tried3 P.length hPL (.int .i64 (n : Int)) (FN a b z P) (IL false false 1 (ci r)) hlP P.length 0 M (.lst true true 0 0 []) [] (by omega) (by simp; omega) (Lst.nil _ 1)
    obtain ⟨v', M', hex3, hL3⟩ := h3 [⟨W, true⟩]
    have hL3 : Lst M' v' 1 (tryA P.length).length (rowsE (tryA P.length)) := hL3
    have hTl := tryA_len P.length
    have h648 : P.length * (P.length * (1 + P.length)) ≤ 8 * (8 * 9) := Nat.mul_le_mul hPL (Nat.mul_le_mul hPL (by omega))
    have hex4 := tried4 G a b z r (by omega) (minR_least hm) (tryA P.length) (by omega) (fun x hx => tryA_mem hx) M' v' hL3 (tryA P.length).length 0 (by omega)
    have hlv : lenL v' = some (tryA P.length).length := hL3.lenL
    have hlr : lenL (IL false false 1 (ci r)) = some r.length := by simp [lenL]
    refine call_P lp_law04_RingProved rfl hpu (m1 := M') ?_ rfl []
    simp only [Int.natCast_zero] at hl0 hex3 hex4
    generalize (tryA P.length).length = TL at *
    generalize (2 ^ P.length - 1 : Nat) = ev at *
    generalize (2 ^ P.length : Nat) = pw at *
    generalize FN a b z P = FP at *
    generalize IL false false 1 (ci r) = RV at *
    generalize (FW n P : Nat) = fw at *
    simp only [law04_RingProved, law04_RingProved.B, law04_RingProved.B.R0, law04_RingProved.B.R1, law04_RingProved.B.R2, law04_RingProved.B.R3, law04_RingProved.B.R4]
    repeat (rw [exF_seq]; try simp only [exF_seq, exF_region, exF_block, exF_cond, exF_ret, exF_skip, runL, wantL, stepL, evL, evC, LEnv.at, putL, loadFine, loadL, cellsAt, Trk.calm, Trk.hit, LEnv.keep, LEnv.ofFrom, List.map_cons, List.map_nil, nbeq, nble, ofAVs, bin_eql, bin_neq, List.any_nil, Bool.or_false, Bool.or_true, Bool.and_true, Bool.false_and, Bool.not_true, Bool.not_false, Nat.reduceEqDiff, decide_true, decide_false, cond_true, cond_false, Nat.reduceAdd, Nat.reduceLeDiff, reduceCtorEq, List.length_nil, List.length_cons, eq_self, retL, resultsL, resAllL, resOfL, List.append_nil, List.nil_append, not_true_eq_false, ne_eq, unL, Int.reduceEq, LV.cells, allocL, List.getElem?_cons_zero, List.getElem?_cons_succ, List.drop_zero, Nat.le_refl, hlen, htk, hmade, hlP, hshl, hsub, hR, hF, hFW, hrg, hlr, hl0, hclo, hprov, hex3, hlv, hex4, works_c, Bool.xor_self, BEq.rfl])
theorem proved_in (ns : List Int) (hl : ns.length = 26) (h : ∀ x ∈ ns, 0 ≤ x ∧ x < 256) : clF LP n_law04_RingProved [.agg (ns.map (LV.int .u8))] [] = some (.P, .bool true, []) := by
  obtain ⟨f, k, bs, e, hf, hk, hb, hbs⟩ := lay_of ns hl h
  rw [e]
  exact proved_law f k hf hk bs hb hbs
end Go.Am.Ring

/-
  THE JOIN, 3: arguments read behind the call as before it.
-/
set_option linter.unusedVariables false
namespace Go.Am
variable [Glo]
open Go.RowKit
omit [Glo] in
theorem trodAll_below {H : Type} {enc : TypeId × Value → H} {P : Program} {W W' : World} (hl : laidOutB P = true) (hb : Below W.heap.size W W') : ∀ {ts : List TypeId} {vs : List Value} {ds : List (DataW H)} {ps : List MemPlace}, (ts.all fun t => P.readableRec t && decide (t < P.types.size)) = true →
    DataW.TrodAll enc P W 0 (fun _ => true) true ts vs ds ps → (∀ x ∈ ps, x.block < W.heap.size) → DataW.TrodAll enc P W' 0 (fun b => decide (b < W.heap.size)) true ts vs ds ps
  | [], [], [], _, _, h, _ => h
  | t :: ts, v :: vs, d :: ds, ps, hr, ⟨p, q, h1, h2, e⟩, hlt => by
    simp only [List.all_cons, Bool.and_eq_true, decide_eq_true_eq] at hr
    subst e
    exact ⟨p, q, Below.trod hl hr.1.1 hr.1.2 h1 hb (fun x hx => hlt x (List.mem_append_left _ hx)), trodAll_below hl hb hr.2 h2 (fun x hx => hlt x (List.mem_append_right _ hx)), rfl⟩
end Go.Am

/-
  THE JOIN, 4: structs of bytes that came in.
-/
set_option linter.unusedVariables false
namespace Go.Am
variable [Glo]
open Go.RowKit

/-! ### Types that hold bytes alone -/
def sumPc : Nat → List (Nat × Nat) → Option Nat
  | off, [] => some off
  | off, (o, k) :: r => cond (Nat.beq o off) (sumPc (off + k) r) none
def pcsF (P : Program) (g : TypeId → Option Nat) : List Field → Option (List (Nat × Nat))
  | [] => some []
  | f :: r => match g f.type with
    | some k => match pcsF P g r with
      | some l => cond (Nat.beq (P.cellsOf f.type) k) (some ((f.offset, k) :: l)) none
      | none => none
    | none => none
/-- How many bytes. -/
def u8T (P : Program) : Nat → TypeId → Option Nat
  | 0, _ => none
  | n + 1, t => match P.underlying t with
    | some (.int .u8) => some 1
    | some (.array m e) => match u8T P n e with
      | some k => cond (Nat.beq (P.cellsOf e) k && Nat.beq (P.cellsOf t) (m * k)) (some (m * k)) none
      | none => none
    | some (.struct fs) => match pcsF P (u8T P n) fs.toList with
      | some l => match sumPc 0 l with
        | some k => cond (Nat.beq (P.cellsOf t) k) (some k) none
        | none => none
      | none => none
    | _ => none
def U8s (cs : List Value) : Prop := ∀ (i : Nat) (v : Value), cs[i]? = some v → ∃ n : Int, v = .int .u8 n ∧ (Lit.int .u8 n).wf = true

omit [Glo] in
theorem sumPc_in : ∀ (l : List (Nat × Nat)) (off tot : Nat), sumPc off l = some tot → ∀ i, off ≤ i → i < tot → ∃ p ∈ l, p.1 ≤ i ∧ i < p.1 + p.2
  | [], off, tot, h, i, h1, h2 => by simp only [sumPc, Option.some.injEq] at h; omega
  | (o, k) :: r, off, tot, h, i, h1, h2 => by
    simp only [sumPc] at h
    cases c : Nat.beq o off <;> rw [c] at h
    · cases h
    · have e : o = off := by simpa using c
      subst e
      by_cases hi : i < o + k
      · exact ⟨(o, k), by simp, h1, hi⟩
      · obtain ⟨p, hp, h3⟩ := sumPc_in r _ _ h i (by omega) h2
        exact ⟨p, by simp [hp], h3⟩
omit [Glo] in
theorem pcsF_in {P : Program} {g : TypeId → Option Nat} : ∀ (fs : List Field) (l : List (Nat × Nat)), pcsF P g fs = some l → ∀ p ∈ l, ∃ (i : Nat) (f : Field), fs[i]? = some f ∧ f.offset = p.1 ∧ g f.type = some p.2 ∧ P.cellsOf f.type = p.2
  | [], l, h, p, hp => by simp only [pcsF, Option.some.injEq] at h; subst h; cases hp
  | f :: r, l, h, p, hp => by
    simp only [pcsF] at h
    split at h
    · rename_i k hk
      split at h
      · rename_i l' hl'
        cases c : Nat.beq (P.cellsOf f.type) k <;> rw [c] at h
        · cases h
        · simp only [cond_true, Option.some.injEq] at h
          subst h
          rcases List.mem_cons.1 hp with rfl | hp
          · exact ⟨0, f, rfl, rfl, hk, by simpa using c⟩
          · obtain ⟨i, f', h1, h2⟩ := pcsF_in r l' hl' p hp
            exact ⟨i + 1, f', by simpa using h1, h2⟩
      · cases h
    · cases h

section
variable {H : Type} {enc : TypeId × Value → H} {P : Program} {w : World} {base : Nat} {sp : Nat → Bool} {held : Bool}
omit [Glo] in
theorem u8T_ok : ∀ (n : Nat) (t : TypeId) (fuel : Nat) (cs : List Value) (x : DataW H × List MemPlace) (k : Nat), u8T P n t = some k → DataW.trod enc P w base sp held fuel t cs = some x → U8s cs ∧ cs.length = k
  | 0, _, _, _, _, _, h, _ => by cases h
  | n + 1, t, fuel, cs, x, k, h, hx => by
    simp only [u8T] at h
    split at h
    · rename_i ht
      cases h
      obtain ⟨a, rfl, _, hw⟩ := DataW.trod_int ht hx
      refine ⟨fun i v hv => ?_, rfl⟩
      match i with
      | 0 => simp at hv; subst hv; exact ⟨a, rfl, hw⟩
      | i + 1 => simp at hv
    · rename_i m e ht
      split at h
      · rename_i k' hk'
        cases c : (Nat.beq (P.cellsOf e) k' && Nat.beq (P.cellsOf t) (m * k')) <;> rw [c] at h
        · cases h
        · simp only [cond_true, Option.some.injEq] at h
          subst h
          simp only [Bool.and_eq_true] at c
          have c1 : P.cellsOf e = k' := by simpa using c.1
          have c2 : P.cellsOf t = m * k' := by simpa using c.2
          obtain ⟨xs, m', _, _, hl, hxl, hf⟩ := DataW.trod_array ht hx
          rw [c2] at hl
          refine ⟨fun i v hv => ?_, hl⟩
          have hi : i < m * k' := by rw [← hl]; exact (List.getElem?_eq_some_iff.1 hv).1
          have hk0 : 0 < k' := by
            rcases Nat.eq_zero_or_pos k' with e0 | e0
            · rw [e0] at hi; simp at hi
            · exact e0
          have h1 : i / k' < m := (Nat.div_lt_iff_lt_mul hk0).2 hi
          have h2 : i % k' < k' := Nat.mod_lt _ hk0
          have h3 : (i / k') * k' + i % k' = i := by rw [Nat.mul_comm]; exact Nat.div_add_mod i k'
          have h4 := hf (i / k') h1
          rw [c1] at h4
          obtain ⟨y, hy⟩ : ∃ y, xs[i / k']? = some y := ⟨xs[i / k']'(by omega), List.getElem?_eq_getElem (by omega)⟩
          rw [hy] at h4
          obtain ⟨h5, _⟩ := u8T_ok n e m' _ y k' hk' h4
          refine h5 (i % k') v ?_
          rw [List.getElem?_take, if_pos h2, List.getElem?_drop, h3]
          exact hv
      · cases h
    · rename_i fs ht
      split at h
      · rename_i l hl'
        split at h
        · rename_i k' hk'
          cases c : Nat.beq (P.cellsOf t) k' <;> rw [c] at h
          · cases h
          · simp only [cond_true, Option.some.injEq] at h
            subst h
            have c2 : P.cellsOf t = k' := by simpa using c
            obtain ⟨xs, m', _, _, hl, hxl, hf⟩ := DataW.trod_struct ht hx
            rw [c2] at hl
            refine ⟨fun i v hv => ?_, hl⟩
            have hi : i < k' := by rw [← hl]; exact (List.getElem?_eq_some_iff.1 hv).1
            obtain ⟨p, hp, p1, p2⟩ := sumPc_in l 0 k' hk' i (Nat.zero_le _) hi
            obtain ⟨j, f, f1, f2, f3, f4⟩ := pcsF_in _ _ hl' p hp
            have f1' : fs[j]? = some f := by simpa using f1
            have hj : j < fs.size := (Array.getElem?_eq_some_iff.1 f1').1
            have h4 := hf j f f1'
            rw [f4, f2] at h4
            obtain ⟨y, hy⟩ : ∃ y, xs[j]? = some y := ⟨xs[j]'(by omega), List.getElem?_eq_getElem (by omega)⟩
            rw [hy] at h4
            obtain ⟨h5, _⟩ := u8T_ok n f.type m' _ y p.2 f3 h4
            refine h5 (i - p.1) v ?_
            rw [List.getElem?_take, if_pos (by omega), List.getElem?_drop, show p.1 + (i - p.1) = i by omega]
            exact hv
        · cases h
      · cases h
    · cases h

omit [Glo] in
theorem u8s_list : ∀ {cs : List Value}, U8s cs → ∃ ns : List Int, cs = ns.map (Value.int .u8) ∧ ∀ n ∈ ns, 0 ≤ n ∧ n < 256
  | [], _ => ⟨[], rfl, by simp⟩
  | v :: r, h => by
    obtain ⟨n, rfl, hw⟩ := h 0 v rfl
    obtain ⟨ns, e, hb⟩ := u8s_list (cs := r) fun i v hv => h (i + 1) v (by simpa using hv)
    refine ⟨n :: ns, by rw [e]; rfl, ?_⟩
    intro x hx
    rcases List.mem_cons.1 hx with rfl | hx
    · have := bounds_u8 hw; omega
    · exact hb x hx

omit [Glo] in
theorem argOk_bytes (w : World) (ns : List Int) : ArgOk w (.agg (ns.map (Value.int .u8)).toArray) (.agg (ns.map (LV.int .u8))) := by
  refine ⟨fun _ => [], [], fun _ => .agg (ns.map (AV.int .u8)), fun _ => rfl, fun ρ b _ => ⟨.agg ?_, fun i cs p h => by simp at h⟩, fun s b _ => .agg ?_⟩
  · show VRs ρ _ (ns.map (Value.int .u8)).toArray.toList
    simp only []
    induction ns with
    | nil => exact .nil
    | cons n r ih => exact .cons (.int _ _) ih
  · exact LRs.map _ fun x _ => .int _ _

omit [Glo] in
/-- A struct of bytes among the arguments. -/
theorem argOk_struct {r : Reach} {b0 n k : Nat} {t : TypeId} {fs : Array Field} {v : Value} {d : DataW H} {ps : List MemPlace} (ht : P.underlying t = some (.struct fs)) (hk : u8T P n t = some k)
    (hval : Value.okWide P w r b0 t v) (hd : DataW.Trod enc P w base sp held t v d ps) :
    ∃ ns : List Int, ns.length = k ∧ (∀ n ∈ ns, 0 ≤ n ∧ n < 256) ∧ ArgOk w v (.agg (ns.map (LV.int .u8))) := by
  obtain ⟨cs, rfl, _⟩ := Go.WideShapes.okWide_struct ht hval
  obtain ⟨fuel, hf⟩ := hd
  obtain ⟨h1, h2⟩ := u8T_ok n t fuel _ _ k hk hf
  obtain ⟨ns, e, hb⟩ := u8s_list h1
  have e' : cs = (ns.map (Value.int .u8)).toArray := by
    apply Array.ext'
    simpa [Value.cells] using e
  subst e'
  refine ⟨ns, ?_, hb, argOk_bytes w ns⟩
  simpa [Value.cells] using h2
end
end Go.Am


