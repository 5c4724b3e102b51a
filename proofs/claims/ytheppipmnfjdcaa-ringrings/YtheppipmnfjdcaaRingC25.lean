import Derived.Test.YtheppipmnfjdcaaRingC24
import Derived.Test.YtheppipmnfjdcaaRingC16
/-
  What functions of chapter 04 compute, 25: the program's rings, for any visitor.
-/
set_option linter.unusedVariables false
set_option linter.unusedSimpArgs false
set_option maxRecDepth 10000
namespace Go.Am.Ring
open Go.Am.G

theorem rings_loop {σ : Type} {N : Nat} (X : RVis σ N) {n : Nat} {P : List (Nat × Nat)} (G : Good n P) {nl ex : Bool} {sz w : Nat} {β : Nat → Nat} {keys : List Nat} (j : Nat) : ∀ (k : Nat) (s : σ) (O : List Nat) (m : LMem), k + j = P.length → WB X P (FN nl ex sz P) w β keys m → X.I s O m → Cl m → (∀ i ∈ O, i < N ∨ w < i) → X.size s + ((List.range' k j).flatMap fun i => ringsU P 6 [i]).length ≤ 100000000 →
    ∃ m' O', exF LP ring_rings.L1 [(7, .ptr w 0 1), (30, FN nl ex sz P), (31, .int .i64 (P.length : Int)), (32, .int .i64 (k : Int))] m = some (.exit 2, [], m') ∧ X.I (((List.range' k j).flatMap fun i => ringsU P 6 [i]).foldl X.vis s) O' m' ∧ Exn m m' O ∧ ∀ i ∈ O', i ∈ O ∨ m.length ≤ i := by
  have h12 := G.le12
  have h6 := G.le6
  induction j with
  | zero =>
    intro k s O m hk hW hI hC hO hs
    obtain rfl : k = P.length := by omega
    refine ⟨m, O, ?_, hI, Exn.rfl' m O, fun i hi => .inl hi⟩
    rw [ring_rings.L1_eq]
    simp only [ring_rings.B1, exF_seq, exF_region, exF_cond, exF_exit, runL, wantL, stepL, evL, LEnv.at, putL, loadFine, LEnv.keep, List.map_cons, List.map_nil, nbeq, bin_lss, Nat.reduceEqDiff, decide_true, decide_false, cond_true, cond_false, eq_self, show ¬ ((P.length : Int) < (P.length : Int)) by omega]
  | succ j ih =>
    intro k s O m hk hW hI hC hO hs
    have h2 : k < P.length := by omega
    have hkk : (k : Int) < (P.length : Int) := by omega
    have hwk := wrap_succ (show k + 1 < 9223372036854775808 by omega)
    have hwl := get_lt hW.fw
    have hw3 := hW.hw
    have seg := pcSE P k h2
    have ok := pcN_ok P k h2
    have hst := (st_lt G h2).1
    have hshl := sshl (show st P k < 32 by omega)
    have hm1 : metB P [k] = 2 ^ st P k := by simp [metB]
    rw [List.range'_succ, List.flatMap_cons] at hs ⊢
    rw [List.length_append] at hs
    rw [List.foldl_append]
    let pr : LBlk := ⟨[.int .i64 ((st P k : Nat) : Int), .int .i64 ((en P k : Nat) : Int)], true⟩
    have hE0 : Exn m (m ++ [pr]) O := Exn.app O fun j => rfl
    have hI0 : X.I s O (m ++ [pr]) := X.hI s O m _ hI fun i hi => by rw [List.getElem?_append_left (X.hlt s O m hI i hi)]
    have hW0 : WB X P (FN nl ex sz P) w β keys (m ++ [pr]) := hW.mono fun i _ hi => by rw [List.getElem?_append_left (by omega)]
    obtain ⟨m1, O1, hc, hI1, hE1, hO1⟩ := walk_c X G 6 [k] ⟨by simp, by simpa using h2, by simp⟩ rfl s O (m ++ [pr]) (.lst false true 1 1 (ints (ci [k]))) hW0 hI0 (hE0.cl hC) hO (.inl ⟨rfl, rfl⟩) (by omega)
    have hE2 : Exn m m1 O := hE0.trans hE1 fun i hi => .inl hi
    have hO2 : ∀ i ∈ O1, i ∈ O ∨ m.length ≤ i := fun i hi => by
      rcases hO1 i hi with h | h
      · exact .inl h
      · simp at h; exact .inr (by omega)
    rw [hm1] at hc
    have hE3 := hE2.trim (envVals [(7, .ptr w 0 1), (30, FN nl ex sz P), (31, .int .i64 (P.length : Int)), (32, .int .i64 ((k + 1 : Nat) : Int))])
    have hI3 := X.trim hI1 m.length (by omega) (envVals [(7, .ptr w 0 1), (30, FN nl ex sz P), (31, .int .i64 (P.length : Int)), (32, .int .i64 ((k + 1 : Nat) : Int))])
    have hszl := X.hszl (ringsU P 6 [k]) s
    obtain ⟨m', O', hex, hI', hE', hO'⟩ := ih (k + 1) _ O1 _ (by omega) (hW.mono fun i h1 h2 => hE3.keep i (by omega) fun h => by rcases hO i h with h | h <;> omega) hI3 (hE3.cl hC) (fun i hi => by
      rcases hO2 i hi with h | h
      · exact hO i h
      · exact .inr (by omega)) (by omega)
    refine ⟨m', O', ?_, hI', hE3.trans hE' hO2, fun i hi => ?_⟩
    · have fw : ∀ b : LBlk, (m ++ [b])[w]? = some ⟨[.func n_ring_rings_1 [] [.ptr N 0 1, .ptr (N + 1) 0 1, .ptr (N + 3) 0 1, .ptr w 0 1]], true⟩ := fun b => by rw [List.getElem?_append_left (by omega)]; exact hW.fw
      rw [ring_rings.L1_eq]
      simp only [FN_eq, List.map_cons, List.map_nil] at hex hc ⊢
      simp only [pr] at hc
      simp only [ring_rings.B1, exF_seq, exF_region, exF_block, exF_cond, exF_skip, runL, wantL, stepL, evL, evC, LEnv.at, putL, loadFine, loadL, cellsAt, Trk.putNew, Trk.up, Trk.touch, Trk.gives, Trk.calm, Trk.hit, opdsOf, Trk.fresh, LEnv.keep, List.map_cons, List.map_nil, nbeq, nble, nblt, ofAV, ofAVs, bin_add, bin_lss, natL_nat, natL_zero, List.any_cons, List.any_nil, Bool.or_false, Bool.or_true, Bool.and_true, Bool.false_and, Bool.not_true, Bool.not_false, Nat.reduceEqDiff, decide_true, decide_false, cond_true, cond_false, List.filter_nil, List.filter_cons, Nat.reduceAdd, Nat.reduceLeDiff, reduceCtorEq, List.length_nil, List.length_cons, Nat.mul_one, if_true, eq_self, List.append_nil, List.nil_append, List.cons_append, unL, LV.pures, LV.pure, freeze, Nat.reduceDiv, LV.cells, allocL, List.getElem?_cons_zero, storeL, spliceL, List.take_zero, List.take_succ_cons, List.drop_zero, List.drop_succ_cons, List.drop_nil, List.take_nil, Nat.le_refl, LV.scalar, List.all_cons, List.all_nil, Nat.reduceLT, fillL, List.length_append, hkk, h2, seg, ok, set_last, get_last, show ¬ m.length + 1 ≤ w by omega, show ¬ m.length + 1 ≤ m.length by omega, fw, views, viewL, hshl, hc, hwk, hex]
    · rcases hO' i hi with h | h
      · exact hO2 i h
      · exact .inr (by have := hE3.len; omega)
theorem rings_c {σ : Type} {m : LMem} (X : RVis σ m.length) {n : Nat} {P : List (Nat × Nat)} (G : Good n P) (nl ex : Bool) (sz : Nat) (s : σ) (O : List Nat) (hI : X.I s O m) (hC : Cl m) (hf : LV.under m.length (.func X.f X.first X.cap) = true) (hs : X.size s = 0) :
    ∃ m' O', clF LP n_ring_rings [FN nl ex sz P, .func X.f X.first X.cap] m = some (.W, .tup [], m') ∧ X.I ((allR P).foldl X.vis s) O' m' := by
  have hlt := X.hlt s O m hI
  let m1 : LMem := m ++ [⟨[FN nl ex sz P], true⟩] ++ [⟨[.func X.f X.first X.cap], true⟩] ++ [⟨[.ents []], true⟩] ++ [⟨[.map (m.length + 2)], true⟩]
  have l1 : m1.length = m.length + 4 := by simp [m1]
  have g0 : m1[m.length]? = some ⟨[FN nl ex sz P], true⟩ := by simp [m1]
  have g1 : m1[m.length + 1]? = some ⟨[.func X.f X.first X.cap], true⟩ := by simp [m1]
  have g2 : m1[m.length + 2]? = some ⟨[.ents []], true⟩ := by simp [m1]
  have g3 : m1[m.length + 3]? = some ⟨[.map (m.length + 2)], true⟩ := by simp [m1]
  have J1 : FJ P m.length 0 (FN nl ex sz P) (.func X.f X.first X.cap) (fun _ => 0) [] m1 := ⟨g0, g1, by rw [g2]; rfl, g3, by simp, fun x _ => by simp [frmK], fun x hx => by simp at hx, fun x hx => by simp at hx⟩
  have C1 : Cl m1 := by
    intro i hi
    rw [l1] at hi
    refine NR.app (NR.app (NR.app (NR.app (hC i (by omega)) rfl) ?_) rfl) ?_
    · simp only [LV.noRefs, Bool.and_true]; exact under_noRef (by omega) hf
    · simp only [LV.noRefs, LV.noRef, nbeq, Bool.and_true, Bool.not_eq_true', decide_eq_false_iff_not]; omega
  obtain ⟨m2, β, keys, hex1, J2, C2, l2, k2⟩ := from_loop P G.le12 nl ex sz m.length (.func X.f X.first X.cap) P.length 0 m1 _ _ (by omega) J1 C1 (by omega)
  have k12 : ∀ i, i < m.length → m1[i]? = m[i]? := fun i hi => by simp only [m1]; rw [List.getElem?_append_left (by simp; omega), List.getElem?_append_left (by simp; omega), List.getElem?_append_left (by simp; omega), List.getElem?_append_left (by omega)]
  let m3 : LMem := m2 ++ [⟨[.func n_ring_rings_1 [] [.ptr m.length 0 1, .ptr (m.length + 1) 0 1, .ptr (m.length + 3) 0 1, .ptr m2.length 0 1]], true⟩]
  have up3 : ∀ i, i < m2.length → m3[i]? = m2[i]? := fun i hi => by simp only [m3]; rw [List.getElem?_append_left hi]
  have W3 : WB X P (FN nl ex sz P) m2.length β keys m3 := by
    refine ⟨⟨by rw [up3 _ (by omega)]; exact J2.f0, by rw [up3 _ (by omega)]; exact J2.f1, by rw [up3 _ (by omega)]; exact J2.f2, by rw [up3 _ (by omega)]; exact J2.f3, J2.nd, J2.cov, fun x hx => ?_, J2.inj⟩, by omega, get_last _ _, fun x hx => get_lt (J2.blk x hx).2.2⟩
    obtain ⟨d1, d2, d3⟩ := J2.blk x hx
    exact ⟨d1, d2, by rw [up3 _ (get_lt d3)]; exact d3⟩
  have C3 : Cl m3 := by
    intro i hi
    simp only [m3, List.length_append, List.length_singleton] at hi
    refine NR.app (C2 i (by omega)) ?_
    simp only [LV.noRefs, LV.noRef, nbeq, Bool.and_true, Bool.true_and, Bool.and_eq_true, Bool.not_eq_true', decide_eq_false_iff_not]
    omega
  have I3 : X.I s O m3 := X.hI s O m m3 hI fun i hi => by have := hlt i hi; rw [up3 i (by omega), k2 i this, k12 i this]
  have hal := allR_len G
  have hall : allR P = (List.range' 0 P.length).flatMap fun i => ringsU P 6 [i] := by rw [allR, List.range_eq_range']
  rw [hall] at hal
  obtain ⟨m4, O', hex2, hI4, hE4, hO4⟩ := rings_loop X G P.length 0 s O m3 (by omega) W3 I3 C3 (fun i hi => .inl (hlt i hi)) (by omega)
  rw [← hall] at hI4
  refine ⟨trim m.length [.tup []] m4, O', ?_, X.trim hI4 _ (Nat.le_refl _) _⟩
  refine call_W lp_ring_rings rfl ?_
  have f0 := J2.f0
  have nn : ¬ m2.length ≤ m.length := by omega
  have s0 : ((m2 ++ [⟨[LV.nilFunc], true⟩] : LMem).set m2.length ⟨[.func n_ring_rings_1 [] [.ptr m.length 0 1, .ptr (m.length + 1) 0 1, .ptr (m.length + 3) 0 1, .ptr m2.length 0 1]], true⟩) = m3 := set_last _ _ _
  have s1 : ((m ++ [⟨[FN nl ex sz P], true⟩] ++ [⟨[.func X.f X.first X.cap], true⟩] ++ [⟨[.ents []], true⟩] ++ [⟨[LV.nilmap], true⟩] : LMem).set (m.length + 3) ⟨[.map (m.length + 2)], true⟩) = m1 := by
    have := set_last (m ++ [⟨[FN nl ex sz P], true⟩] ++ [⟨[.func X.f X.first X.cap], true⟩] ++ [⟨[.ents []], true⟩]) ⟨[LV.nilmap], true⟩ ⟨[.map (m.length + 2)], true⟩
    refine Eq.trans ?_ this
    congr 1
    simp
  have s2 : ((m ++ [⟨[FN nl ex sz P], true⟩] ++ [⟨[.func X.f X.first X.cap], true⟩] ++ [⟨[.ents []], true⟩] ++ [⟨[LV.nilmap], true⟩] : LMem))[m.length + 3]? = some ⟨[LV.nilmap], true⟩ := by simp
  have f03 : m3[m.length]? = some ⟨[FN nl ex sz P], true⟩ := by rw [up3 _ (by omega)]; exact f0
  have gl : ((m2 ++ [⟨[LV.nilFunc], true⟩] : LMem))[m2.length]? = some ⟨[LV.nilFunc], true⟩ := get_last _ _
  have e1 : ∀ a : LBlk, (m ++ [a]).length = m.length + 1 := fun a => by simp
  have e2 : ∀ a b : LBlk, (m ++ [a] ++ [b]).length = m.length + 2 := fun a b => by simp
  have e3 : ∀ a b c : LBlk, (m ++ [a] ++ [b] ++ [c]).length = m.length + 3 := fun a b c => by simp
  simp only [Int.natCast_zero] at hex1 hex2
  simp only [FN_eq] at hex1 hex2 s1 s2 f0 f03 g0 ⊢
  simp only [ring_rings, ring_rings.B, exF_seq, exF_region, exF_block, runL, wantL, stepL, evL, evC, LEnv.at, putL, loadFine, loadL, cellsAt, Trk.calm, Trk.hit, LEnv.keep, LEnv.ofFrom, List.map_cons, List.map_nil, nbeq, nble, ofAV, ofAVs, lenL, List.any_nil, Bool.or_false, Bool.false_or, Bool.true_or, Bool.or_true, Bool.and_true, Bool.false_and, Bool.not_true, Bool.not_false, Nat.reduceEqDiff, decide_true, decide_false, cond_true, cond_false, Nat.reduceAdd, Nat.reduceLeDiff, reduceCtorEq, List.length_nil, List.length_cons, eq_self, retL, resultsL, resAllL, List.append_nil, List.nil_append, LV.cells, allocL, List.getElem?_cons_zero, storeL, spliceL, List.take_zero, List.take_succ_cons, List.drop_zero, List.drop_succ_cons, List.drop_nil, List.take_nil, Nat.le_refl, LV.scalar, List.all_cons, List.all_nil, e1, e2, e3, s1, s2, g0, show ¬ m1.length ≤ m.length by omega, hex1, gl, s0, f03, hex2]
end Go.Am.Ring

/-
  What functions of chapter 04 compute, 26: the shortest ring, of the program.
-/
set_option linter.unusedVariables false
set_option linter.unusedSimpArgs false
set_option maxRecDepth 10000
namespace Go.Am.Ring
open Go.Am.G

/-- The first of the shortest so far. -/
def shorter (s : Option (List Nat)) (r : List Nat) : Option (List Nat) := match s with
  | none => some r
  | some o => if r.length < o.length then some r else some o
/-- The cell of the shortest ring. -/
def ringI (s : Option (List Nat)) (O : List Nat) (m : LMem) : Prop := match s with
  | none => m[0]? = some ⟨[.lst true true 0 0 []], true⟩ ∧ O = [0]
  | some r => r ≠ [] ∧ ∃ b, b ≠ 0 ∧ m[0]? = some ⟨[.sl b 0 r.length r.length 1 1 r.length], true⟩ ∧ m[b]? = some ⟨ints (ci r), true⟩ ∧ O = [0, b]
def ringVis : RVis (Option (List Nat)) 1 where
  I := ringI
  vis := shorter
  f := n_ring_Ring_1
  first := []
  cap := [.ptr 0 0 1]
  size := fun _ => 0
  hsz := fun _ _ => by omega
  hI := by
    intro s O m m' h e
    cases s with
    | none =>
      obtain ⟨h1, rfl⟩ := h
      exact ⟨by rw [e 0 (by simp)]; exact h1, rfl⟩
    | some r =>
      obtain ⟨h0, b, hb, h1, h2, rfl⟩ := h
      exact ⟨h0, b, hb, by rw [e 0 (by simp)]; exact h1, by rw [e b (by simp)]; exact h2, rfl⟩
  hlt := by
    intro s O m h i hi
    cases s with
    | none =>
      obtain ⟨h1, rfl⟩ := h
      rw [List.mem_singleton.1 hi]; exact get_lt h1
    | some r =>
      obtain ⟨h0, b, hb, h1, h2, rfl⟩ := h
      simp at hi
      rcases hi with rfl | rfl
      · exact get_lt h1
      · exact get_lt h2
  hT := by
    intro s O m k h hk hb i hi
    cases s with
    | none =>
      obtain ⟨h1, rfl⟩ := h
      rw [List.mem_singleton.1 hi]; omega
    | some r =>
      obtain ⟨h0, b, hb0, h1, h2, rfl⟩ := h
      simp at hi
      rcases hi with rfl | rfl
      · omega
      · unfold belowM at hb
        rw [List.all_eq_true] at hb
        have := hb ⟨[.sl i 0 r.length r.length 1 1 r.length], true⟩ (by
          have g : (m.take k)[0]? = m[0]? := by rw [List.getElem?_take, if_pos (by omega)]
          rw [h1] at g
          exact List.mem_of_getElem? g)
        simpa only [LV.unders, LV.under, Bool.and_true, nblt, decide_eq_true_eq] using this
  hvis := by
    intro s O m r h hr h6 _ hN hC
    have hl0 : (0 : Nat) < m.length := by omega
    have hnil : ∀ (x : LV) (M : LMem), trim (m.length + 1) [LV.bool true] ((m ++ [(⟨ints (ci r), true⟩ : LBlk)]).set 0 ⟨[x], true⟩) = (m ++ [(⟨ints (ci r), true⟩ : LBlk)]).set 0 ⟨[x], true⟩ := fun x M => trim_le _ _ _ (by simp)
    have hL : (m ++ [(⟨ints (ci r), true⟩ : LBlk)]).length = m.length + 1 := by simp
    have up : ∀ {i : Nat} {b : LBlk}, m[i]? = some b → (m ++ [(⟨ints (ci r), true⟩ : LBlk)])[i]? = some b := fun h => by rw [List.getElem?_append_left (get_lt h)]; exact h
    have hcall : ∀ (v : LV) (M : LMem), retL ring_Ring_1.results (exF LP ring_Ring_1.body (LEnv.ofFrom 0 [.sl m.length 0 r.length r.length 1 1 r.length, .ptr 0 0 1]) (m ++ [(⟨ints (ci r), true⟩ : LBlk)])) = some (.bool true, M) → M.length = m.length + 1 → clF LP n_ring_Ring_1 [.sl m.length 0 r.length r.length 1 1 r.length, .ptr 0 0 1] (m ++ [(⟨ints (ci r), true⟩ : LBlk)]) = some (.W, .bool true, M) := fun v M h hM => by
      have := call_W lp_ring_Ring_1 rfl h
      rw [this, trim_le _ _ _ (by rw [hL, hM]; omega)]
    have hEx : ∀ (O : List Nat), 0 ∈ O → Exn m ((m ++ [(⟨ints (ci r), true⟩ : LBlk)]).set 0 ⟨[.sl m.length 0 r.length r.length 1 1 r.length], true⟩) O := fun O hO => by
      refine ⟨by simp, fun i hi hn => ?_, fun i hi hN => ?_, fun hC i hi => ?_⟩
      · have : ¬ 0 = i := fun e => hn (e ▸ hO)
        rw [List.getElem?_set_ne this, List.getElem?_append_left hi]
      · refine NR.set (hN.app (noRefs_int i _ _)) ?_
        simp only [LV.noRefs, LV.noRef, nbeq, Bool.and_true, Bool.not_eq_true', decide_eq_false_iff_not]; omega
      · simp at hi
        refine NR.set (NR.app (hC i (by omega)) (noRefs_int i _ _)) ?_
        simp only [LV.noRefs, LV.noRef, nbeq, Bool.and_true, Bool.not_eq_true', decide_eq_false_iff_not]; omega
    have hIn : ringI (some r) [0, m.length] ((m ++ [(⟨ints (ci r), true⟩ : LBlk)]).set 0 ⟨[.sl m.length 0 r.length r.length 1 1 r.length], true⟩) := by
      refine ⟨hr, m.length, by omega, by rw [List.getElem?_set_self (by simp)], ?_, rfl⟩
      rw [List.getElem?_set_ne (by omega)]; exact get_last _ _
    cases s with
    | none =>
      obtain ⟨h1, rfl⟩ := h
      refine ⟨(m ++ [(⟨ints (ci r), true⟩ : LBlk)]).set 0 ⟨[.sl m.length 0 r.length r.length 1 1 r.length], true⟩, [0, m.length], ?_, hIn, hEx _ (by simp), fun i hi => by simp at hi ⊢; omega⟩
      refine hcall (.bool true) _ ?_ (by simp)
      have h1' := up h1
      generalize m ++ [(⟨ints (ci r), true⟩ : LBlk)] = M at *
      simp only [ring_Ring_1, ring_Ring_1.B, beqF, exF_seq, exF_region, exF_cond, exF_ret, runL, wantL, stepL, evL, evC, LEnv.at, putL, loadFine, loadL, cellsAt, Trk.calm, Trk.hit, LEnv.keep, LEnv.ofFrom, List.map_cons, List.map_nil, nbeq, nble, List.any_nil, Bool.or_false, Bool.false_or, Bool.true_or, Bool.and_true, Bool.not_true, Nat.reduceEqDiff, decide_true, decide_false, cond_true, cond_false, Nat.reduceAdd, Nat.reduceLeDiff, reduceCtorEq, List.length_nil, List.length_cons, eq_self, retL, resultsL, resAllL, resOfL, List.append_nil, List.nil_append, LV.cells, List.getElem?_cons_zero, storeL, spliceL, List.take_zero, List.take_succ_cons, List.drop_zero, List.drop_succ_cons, List.drop_nil, List.take_nil, Nat.le_refl, LV.scalar, List.all_cons, List.all_nil, h1', nilOf, eqsL, Bool.false_xor]
    | some o =>
      obtain ⟨ho, b, hb0, h1, h2, rfl⟩ := h
      have h1' := up h1
      by_cases c : r.length < o.length
      · refine ⟨(m ++ [(⟨ints (ci r), true⟩ : LBlk)]).set 0 ⟨[.sl m.length 0 r.length r.length 1 1 r.length], true⟩, [0, m.length], ?_, by rw [shorter, if_pos c]; exact hIn, hEx _ (by simp), fun i hi => by simp at hi ⊢; omega⟩
        refine hcall (.bool true) _ ?_ (by simp)
        have c' : (r.length : Int) < (o.length : Int) := by omega
        generalize m ++ [(⟨ints (ci r), true⟩ : LBlk)] = M at *
        simp only [ring_Ring_1, ring_Ring_1.B, beqF, exF_seq, exF_region, exF_cond, exF_ret, runL, wantL, stepL, evL, evC, LEnv.at, putL, loadFine, loadL, cellsAt, Trk.putNew, Trk.up, Trk.touch, Trk.gives, Trk.calm, Trk.hit, opdsOf, Trk.fresh, LEnv.keep, LEnv.ofFrom, List.map_cons, List.map_nil, nbeq, nble, lenL, bin_lss, List.any_cons, List.any_nil, Bool.or_false, Bool.false_or, Bool.true_or, Bool.and_true, Bool.not_false, Nat.reduceEqDiff, decide_true, decide_false, cond_true, cond_false, List.filter_nil, Nat.reduceAdd, Nat.reduceLeDiff, reduceCtorEq, List.length_nil, List.length_cons, eq_self, retL, resultsL, resAllL, resOfL, List.append_nil, List.nil_append, LV.cells, List.getElem?_cons_zero, storeL, spliceL, List.take_zero, List.take_succ_cons, List.drop_zero, List.drop_succ_cons, List.drop_nil, List.take_nil, Nat.le_refl, LV.scalar, List.all_cons, List.all_nil, h1', nilOf, eqsL, Bool.xor_false, c']
      · refine ⟨m ++ [(⟨ints (ci r), true⟩ : LBlk)], [0, b], ?_, by rw [shorter, if_neg c]; exact ⟨ho, b, hb0, h1', up h2, rfl⟩, Exn.app _ fun j => noRefs_int j _ _, fun i hi => .inl hi⟩
        refine hcall (.bool true) _ ?_ (by simp)
        have c' : ¬ (r.length : Int) < (o.length : Int) := by omega
        generalize m ++ [(⟨ints (ci r), true⟩ : LBlk)] = M at *
        simp only [ring_Ring_1, ring_Ring_1.B, beqF, exF_seq, exF_region, exF_cond, exF_ret, exF_skip, runL, wantL, stepL, evL, evC, LEnv.at, putL, loadFine, loadL, cellsAt, Trk.putNew, Trk.up, Trk.touch, Trk.gives, Trk.calm, Trk.hit, opdsOf, Trk.fresh, LEnv.keep, LEnv.ofFrom, List.map_cons, List.map_nil, nbeq, nble, lenL, bin_lss, List.any_cons, List.any_nil, Bool.or_false, Bool.false_or, Bool.true_or, Bool.and_true, Bool.not_false, Nat.reduceEqDiff, decide_true, decide_false, cond_true, cond_false, List.filter_nil, Nat.reduceAdd, Nat.reduceLeDiff, reduceCtorEq, List.length_nil, List.length_cons, eq_self, retL, resultsL, resAllL, resOfL, List.getElem?_cons_zero, List.take_succ_cons, List.drop_zero, List.take_nil, Nat.le_refl, h1', nilOf, eqsL, Bool.xor_false, c']
/-- The first of the shortest rings. -/
def minR (P : List (Nat × Nat)) : Option (List Nat) := (allR P).foldl shorter none
def ringV (P : List (Nat × Nat)) : LV := match minR P with
  | none => .tup [.lst true true 0 0 [], .int .i64 13]
  | some r => .tup [IL false false 1 (ci r), .int .i64 0]
theorem ring_c {n : Nat} {P : List (Nat × Nat)} (G : Good n P) (nl ex : Bool) (sz : Nat) (m : LMem) : clF LP n_ring_Ring [.int .i64 (n : Int), FN nl ex sz P] m = some (.P, ringV P, m) := by
  have hc := fun m => check_c nl ex sz (n : Int) (P.map castP) (by have := G.le12; simp; omega) m
  rw [chkF_of G] at hc
  have hcell : ∀ M : LMem, M = [⟨[.lst true true 0 0 []], true⟩] → Cl M := by
    rintro M rfl i hi b hb
    rw [List.mem_singleton.1 hb]; rfl
  obtain ⟨m', O', hr, hI⟩ := rings_c (m := [⟨[.lst true true 0 0 []], true⟩]) ringVis G nl ex sz none [0] ⟨rfl, rfl⟩ (hcell _ rfl) rfl rfl
  have hr : clF LP n_ring_rings [FN nl ex sz P, .func n_ring_Ring_1 [] [.ptr 0 0 1]] [⟨[.lst true true 0 0 []], true⟩] = some (.W, .tup [], m') := hr
  have hI : ringI (minR P) O' m' := hI
  unfold ringV
  cases hm : minR P with
  | none =>
    rw [hm] at hI
    obtain ⟨h1, rfl⟩ := hI
    refine call_P lp_ring_Ring rfl (by simp [LV.pures, LV.pure]) (m1 := m') ?_ rfl m
    simp only [FN_eq] at hc hr ⊢
    simp only [ring_Ring, ring_Ring.B, exF_seq, exF_region, exF_cond, exF_ret, exF_skip, runL, wantL, stepL, evL, evC, LEnv.at, putL, loadFine, loadL, cellsAt, Trk.calm, Trk.hit, LEnv.keep, LEnv.ofFrom, List.map_cons, List.map_nil, nbeq, nble, ofAV, ofAVs, bin_neq, List.any_nil, Bool.or_false, Bool.false_or, Bool.true_or, Bool.and_true, Nat.reduceEqDiff, decide_true, decide_false, cond_true, cond_false, Nat.reduceAdd, Nat.reduceLeDiff, reduceCtorEq, List.length_nil, List.length_cons, eq_self, retL, resultsL, resAllL, resOfL, List.append_nil, List.nil_append, not_true_eq_false, ne_eq, allocL, List.getElem?_cons_zero, List.take_succ_cons, List.drop_zero, List.take_nil, Nat.le_refl, hc, hr, h1, nilOf, eqsL, Bool.false_xor]
  | some r =>
    rw [hm] at hI
    obtain ⟨h0, b, hb, h1, h2, rfl⟩ := hI
    have hv : view 100 m' (.tup [.sl b 0 r.length r.length 1 1 r.length, .int .i64 0]) = some (.tup [IL false false 1 (ci r), .int .i64 0], [b]) := view_tup2 m' _ _ _ _ (fun k => by
      have := view_sl k m' b 0 r.length r.length 1 (ci r) true h2 (by simp) (by omega) r.length (Nat.le_refl _)
      rw [List.drop_zero, List.take_of_length_le (by simp)] at this
      exact this) rfl rfl
    refine call_Pv lp_ring_Ring rfl (by simp [LV.pures, LV.pure]) (m1 := m') (v := .tup [.sl b 0 r.length r.length 1 1 r.length, .int .i64 0]) (ids := [b]) ?_ hv m
    simp only [FN_eq] at hc hr ⊢
    simp only [ring_Ring, ring_Ring.B, exF_seq, exF_region, exF_cond, exF_ret, exF_skip, runL, wantL, stepL, evL, evC, LEnv.at, putL, loadFine, loadL, cellsAt, Trk.calm, Trk.hit, LEnv.keep, LEnv.ofFrom, List.map_cons, List.map_nil, nbeq, nble, ofAV, ofAVs, bin_neq, List.any_nil, Bool.or_false, Bool.false_or, Bool.true_or, Bool.and_true, Nat.reduceEqDiff, decide_true, decide_false, cond_true, cond_false, Nat.reduceAdd, Nat.reduceLeDiff, reduceCtorEq, List.length_nil, List.length_cons, eq_self, retL, resultsL, resAllL, resOfL, List.append_nil, List.nil_append, not_true_eq_false, ne_eq, allocL, List.getElem?_cons_zero, List.take_succ_cons, List.drop_zero, List.take_nil, Nat.le_refl, hc, hr, h1, nilOf, eqsL, Bool.xor_false]
theorem ring_e (N : Int) (l : List (Int × Int)) (hl : l.length < 1000000) (h : chkF N l ≠ 0) (nl ex : Bool) (sz : Nat) (m : LMem) :
    clF LP n_ring_Ring [.int .i64 N, FL nl ex sz l] m = some (.P, .tup [.lst true true 0 0 [], .int .i64 (chkF N l)], m) := by
  have hc := fun m => check_c nl ex sz N l hl m
  refine call_P lp_ring_Ring rfl (by simp [LV.pures, LV.pure]) (m1 := []) ?_ rfl m
  simp only [ring_Ring, ring_Ring.B, exF_seq, exF_region, exF_cond, exF_ret, runL, wantL, stepL, evL, evC, LEnv.at, putL, loadFine, LEnv.keep, LEnv.ofFrom, List.map_cons, List.map_nil, nbeq, ofAVs, bin_neq, Nat.reduceEqDiff, decide_true, decide_false, cond_true, cond_false, Nat.reduceAdd, reduceCtorEq, eq_self, retL, resultsL, resAllL, resOfL, List.append_nil, List.nil_append, not_false_eq_true, ne_eq, hc, h]
end Go.Am.Ring

/-
  Forms and finds, in plain: there is a ring just if each order contradicts a find.
-/
set_option linter.unusedVariables false
set_option linter.unusedSimpArgs false
namespace Go.Am.Ring

def Chain (P : List (Nat × Nat)) : List Nat → Prop
  | [] => True
  | [_] => True
  | a :: b :: r => en P a = st P b ∧ Chain P (b :: r)
/-- Two chains, one behind the other. -/
theorem chain_append {P : List (Nat × Nat)} : ∀ (a b : List Nat), Chain P (a ++ b) ↔ Chain P a ∧ Chain P b ∧ (a ≠ [] → b ≠ [] → en P (a.getLastD 0) = st P (b.headD 0))
  | [], b => by simp [Chain]
  | [x], [] => by simp [Chain]
  | [x], y :: b => by
    constructor
    · intro h; exact ⟨trivial, h.2, fun _ _ => h.1⟩
    · intro h; exact ⟨h.2.2 (by simp) (by simp), h.2.1⟩
  | x :: y :: a, b => by
    have ih := chain_append (P := P) (y :: a) b
    have e : Chain P (x :: y :: a ++ b) ↔ en P x = st P y ∧ Chain P (y :: a ++ b) := Iff.rfl
    have e2 : Chain P (x :: y :: a) ↔ en P x = st P y ∧ Chain P (y :: a) := Iff.rfl
    have e3 : (x :: y :: a).getLastD 0 = (y :: a).getLastD 0 := by simp [List.getLastD]
    rw [e, e2, ih, e3]
    constructor
    · rintro ⟨h1, h2, h3, h4⟩; exact ⟨⟨h1, h2⟩, h3, fun _ hb => h4 (by simp) hb⟩
    · rintro ⟨⟨h1, h2⟩, h3, h4⟩; exact ⟨h1, h2, h3, fun _ hb => h4 (by simp) hb⟩
structure Cyc (P : List (Nat × Nat)) (b : List Nat) : Prop where
  ne : b ≠ []
  lt : ∀ k ∈ b, k < P.length
  nd : (b.map (st P)).Nodup
  ch : Chain P b
  cl : en P (b.getLastD 0) = st P (b.headD 0)
theorem headD_app (b r : List Nat) (h : b ≠ []) : (b ++ r).headD 0 = b.headD 0 := by
  cases b with
  | nil => exact absurd rfl h
  | cons a t => rfl
theorem ringsU_mem {n : Nat} {P : List (Nat × Nat)} (G : Good n P) : ∀ (r b : List Nat) (u : Nat), Beg n P b → b.length + u = 7 → Cyc P (b ++ r) → (∀ k ∈ r, b.headD 0 < k) → b ++ r ∈ ringsU P u b
  | r, b, 0, B, hu, _, _ => by have := B.len G; omega
  | [], b, u + 1, B, hu, C, _ => by
    rw [List.append_nil] at C ⊢
    rw [ringsU, if_pos C.cl]; simp
  | i :: r, b, u + 1, B, hu, C, hm => by
    have hch := (chain_append b (i :: r)).1 C.ch
    have hlast : en P (b.getLastD 0) = st P i := hch.2.2 B.ne (by simp)
    have hnd := C.nd
    rw [List.map_append, List.nodup_append] at hnd
    have hne : ∀ k ∈ b, st P k ≠ st P i := fun k hk => hnd.2.2 _ (List.mem_map.2 ⟨k, hk, rfl⟩) _ (List.mem_map.2 ⟨i, by simp, rfl⟩)
    have hil : i < P.length := C.lt i (by simp)
    have hnc : ¬ en P (b.getLastD 0) = st P (b.headD 0) := by
      intro c
      rw [hlast] at c
      refine hne (b.headD 0) ?_ c.symm
      cases hb : b with
      | nil => exact absurd hb B.ne
      | cons a t => simp
    have hfr : freshB P b i = true := by
      unfold freshB
      rw [List.all_eq_true]
      intro k hk
      simp [hne k hk]
    have hih := hm i (by simp)
    rw [ringsU, if_neg hnc, List.mem_flatMap]
    refine ⟨i, List.mem_range'_1.2 ⟨by omega, by omega⟩, ?_⟩
    rw [if_pos ⟨hlast.symm, hfr⟩]
    have := ringsU_mem G r (b ++ [i]) u (B.snoc hil hfr) (by simp; omega) (by rw [List.append_assoc]; exact C) (fun k hk => by
      rw [headD_app b [i] B.ne]
      exact hm k (by simp [hk]))
    rw [List.append_assoc] at this
    exact this
theorem ringsU_cyc {n : Nat} {P : List (Nat × Nat)} (G : Good n P) : ∀ (u : Nat) (b : List Nat), Beg n P b → Chain P b → ∀ o ∈ ringsU P u b, Cyc P o ∧ ∃ r, o = b ++ r ∧ ∀ k ∈ r, b.headD 0 < k
  | 0, b, _, _, o, ho => by simp [ringsU] at ho
  | u + 1, b, B, hch, o, ho => by
    rw [ringsU] at ho
    split at ho
    · rename_i h
      simp at ho
      subst ho
      exact ⟨⟨B.ne, B.lt, B.nd, hch, h⟩, [], by simp, by simp⟩
    · rw [List.mem_flatMap] at ho
      obtain ⟨i, hi, ho⟩ := ho
      rw [List.mem_range'_1] at hi
      split at ho
      · rename_i h
        have hil : i < P.length := by omega
        have hch2 : Chain P (b ++ [i]) := (chain_append b [i]).2 ⟨hch, trivial, fun _ _ => h.1.symm⟩
        obtain ⟨h1, r, h2, h3⟩ := ringsU_cyc G u (b ++ [i]) (B.snoc hil h.2) hch2 o ho
        rw [headD_app b [i] B.ne] at h3
        refine ⟨h1, i :: r, by rw [h2]; simp, ?_⟩
        intro k hk
        rcases List.mem_cons.1 hk with rfl | hk
        · omega
        · exact h3 k hk
      · simp at ho
theorem beg_one {n : Nat} {P : List (Nat × Nat)} {i : Nat} (hi : i < P.length) : Beg n P [i] := ⟨by simp, by simpa using hi, by simp⟩
/-- All rings are cycles told from their smallest find on, and each of these is there. -/
theorem allR_mem {n : Nat} {P : List (Nat × Nat)} (G : Good n P) (o : List Nat) : o ∈ allR P ↔ Cyc P o ∧ ∀ k ∈ o.tail, o.headD 0 < k := by
  unfold allR
  rw [List.mem_flatMap]
  constructor
  · rintro ⟨i, hi, ho⟩
    obtain ⟨h1, r, rfl, h3⟩ := ringsU_cyc G 6 [i] (beg_one (List.mem_range.1 hi)) trivial o ho
    exact ⟨h1, h3⟩
  · rintro ⟨C, h⟩
    cases o with
    | nil => exact absurd rfl C.ne
    | cons i r =>
      have hi := C.lt i (by simp)
      exact ⟨i, List.mem_range.2 hi, ringsU_mem G r [i] 6 (beg_one hi) rfl C h⟩
end Go.Am.Ring


