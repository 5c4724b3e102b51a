import Derived.Test.YtheppipmnfjdcaaRingC24
import Derived.Test.YtheppipmnfjdcaaRingP5
/-
  What functions of chapter 04 compute, 27: the shortest ring, of the reference; Index, Contains and Min of lists.
-/
set_option linter.unusedVariables false
set_option linter.unusedSimpArgs false
set_option maxRecDepth 10000
namespace Go.Am.Ring
open Go.Am.G

theorem rowN_at (R : List (List Nat)) (i : Nat) (h : i < R.length) : (rows R)[i]? = some (rlv (ci R[i])) := by rw [List.getElem?_map, List.getElem?_eq_getElem h]; rfl
end Go.Am.Ring

/-
  What functions of chapter 04 compute, 31: the most rings apart, of the program.
-/
set_option linter.unusedVariables false
set_option linter.unusedSimpArgs false
set_option maxRecDepth 10000
namespace Go.Am.Ring
open Go.Am.G

/-! ### A map from numbers to numbers, each of them right -/
def GoodE (f : Nat → Nat) (E : List (Nat × LV)) : Prop := ∀ e ∈ E, e.2 = .int .i64 ((f e.1 : Nat) : Int)
theorem key_or (x : Nat) : ∀ E : List (Nat × LV), (∀ e ∈ E, e.1 ≠ x) ∨ ∃ A w B, E = A ++ (x, w) :: B ∧ ∀ e ∈ A, e.1 ≠ x
  | [] => .inl (by simp)
  | (a, w) :: E => by
    by_cases c : a = x
    · subst c
      exact .inr ⟨[], w, E, rfl, by simp⟩
    · rcases key_or x E with h | ⟨A, w', B, rfl, h⟩
      · exact .inl fun e he => by
          rcases List.mem_cons.1 he with rfl | he
          · exact c
          · exact h e he
      · exact .inr ⟨(a, w) :: A, w', B, rfl, fun e he => by
          rcases List.mem_cons.1 he with rfl | he
          · exact c
          · exact h e he⟩
theorem goodE_look {f : Nat → Nat} {E : List (Nat × LV)} (hE : GoodE f E) (x : Nat) : findML (.int .i64 (x : Int)) (entM E) 0 = some none ∨ ∃ j, findML (.int .i64 (x : Int)) (entM E) 0 = some (some (j, .int .i64 ((f x : Nat) : Int))) := by
  rcases key_or x E with h | ⟨A, w, B, rfl, h⟩
  · exact .inl (find_none x E 0 h)
  · have := hE (x, w) (by simp)
    simp only at this
    subst this
    exact .inr ⟨_, find_some x _ B A 0 h⟩
theorem goodE_put {f : Nat → Nat} {E : List (Nat × LV)} (hE : GoodE f E) (x : Nat) {m : LMem} {ik : Nat} (hm : m[ik]? = some ⟨[.ents (entM E)], true⟩) : ∃ E', putML m (.map ik) (.int .i64 (x : Int)) (.int .i64 ((f x : Nat) : Int)) = some (m.set ik ⟨[.ents (entM E')], true⟩) ∧ GoodE f E' := by
  rcases key_or x E with h | ⟨A, w, B, rfl, h⟩
  · refine ⟨E ++ [(x, .int .i64 ((f x : Nat) : Int))], ?_, ?_⟩
    · simp only [putML, LV.isInt, cond_true, hm, find_none x E 0 h, entM_snoc]
    · intro e he
      rcases List.mem_append.1 he with h | h
      · exact hE e h
      · rw [List.mem_singleton.1 h]
  · refine ⟨A ++ (x, .int .i64 ((f x : Nat) : Int)) :: B, ?_, ?_⟩
    · have h1 := find_some x w B A 0 h
      have h2 := entM_set x w (.int .i64 ((f x : Nat) : Int)) B A
      simp only [putML, LV.isInt, cond_true, hm, h1, h2]
    · intro e he
      rcases List.mem_append.1 he with h | h
      · exact hE e (by simp [h])
      · rcases List.mem_cons.1 h with rfl | h
        · rfl
        · exact hE e (by simp [h])

/-! ### How many rings can still be had -/
/-- The list of all rings, as a value. -/
def RowV (m : LMem) (v : LV) (ik : Nat) (R : List (List Nat)) : Prop := (R = [] ∧ v = .lst true true 0 0 []) ∨ ∃ b, b < ik ∧ v = .sl b 0 R.length R.length 1 1 R.length ∧ m[b]? = some ⟨rows R, true⟩
structure MA (R : List (List Nat)) (v : LV) (ik : Nat) (m : LMem) : Prop where
  pos : 0 < ik
  c0 : m[0]? = some ⟨[v], true⟩
  rv : RowV m v ik R
  cm : m[ik + 1]? = some ⟨[.map ik], true⟩
  cf : m[ik + 2]? = some ⟨[.func n_ring_Apart_2 [] [.ptr (ik + 1) 0 1, .ptr 0 0 1, .ptr (ik + 2) 0 1]], true⟩
theorem MA.mono {R : List (List Nat)} {v : LV} {ik : Nat} {m m' : LMem} (h : MA R v ik m) (e : ∀ i, i < ik + 3 → i ≠ ik → m'[i]? = m[i]?) : MA R v ik m' := by
  have := h.pos
  refine ⟨h.pos, by rw [e 0 (by omega) (by omega)]; exact h.c0, ?_, by rw [e _ (by omega) (by omega)]; exact h.cm, by rw [e _ (by omega) (by omega)]; exact h.cf⟩
  rcases h.rv with h | ⟨b, h1, h2, h3⟩
  · exact .inl h
  · exact .inr ⟨b, h1, h2, by rw [e b (by omega) (by omega)]; exact h3⟩
/-- The memory, with what is known. -/
def mE (m : LMem) (ik : Nat) (E : List (Nat × LV)) : LMem := m.set ik ⟨[.ents (entM E)], true⟩
theorem mE_get {m : LMem} {ik : Nat} {E : List (Nat × LV)} {i : Nat} (h : ¬ ik = i) : (mE m ik E)[i]? = m[i]? := by rw [mE, List.getElem?_set_ne h]
theorem mE_ik {m : LMem} {ik : Nat} {E : List (Nat × LV)} (h : ik < m.length) : (mE m ik E)[ik]? = some ⟨[.ents (entM E)], true⟩ := by rw [mE, List.getElem?_set_self h]
theorem mE_len {m : LMem} {ik : Nat} {E : List (Nat × LV)} : (mE m ik E).length = m.length := by simp [mE]
theorem mE_set {m : LMem} {ik : Nat} {E E' : List (Nat × LV)} : (mE m ik E).set ik ⟨[.ents (entM E')], true⟩ = mE m ik E' := by simp [mE, List.set_set]
def stepN (R : List (List Nat)) (U : Nat) (n : Nat) (r : List Nat) : Nat := if decide (setB r &&& U = 0) = true then (if n < 1 + mU R (U ||| setB r) then 1 + mU R (U ||| setB r) else n) else n
def MostOk (R : List (List Nat)) (ik : Nat) (m : LMem) (U : Nat) : Prop := ∀ E, GoodE (mU R) E → ∃ E', clF LP n_ring_Apart_2 [.int .i64 (U : Int), .ptr (ik + 1) 0 1, .ptr 0 0 1, .ptr (ik + 2) 0 1] (mE m ik E) = some (.W, .int .i64 ((mU R U : Nat) : Int), mE m ik E') ∧ GoodE (mU R) E'
theorem most_loop (R : List (List Nat)) (hR : ∀ r ∈ R, (∀ i ∈ r, i < 12) ∧ r.length < 1000) (hRl : R.length < 1000000000) (v : LV) (ik : Nat) (m : LMem) (M : MA R v ik m) (U : Nat) (hU : U < 4096) (hrec : ∀ r ∈ R, setB r &&& U = 0 → MostOk R ik m (U ||| setB r)) (j : Nat) : ∀ (k n : Nat) (E : List (Nat × LV)), k + j = R.length → n < 1000000001 → GoodE (mU R) E →
    ∃ E', exF LP ring_Apart_2.L0 [(0, .int .i64 (U : Int)), (1, .ptr (ik + 1) 0 1), (3, .ptr (ik + 2) 0 1), (8, .int .i64 (n : Int)), (20, v), (21, .int .i64 (R.length : Int)), (22, .int .i64 (k : Int))] (mE m ik E) = some (.exit 0, [(0, .int .i64 (U : Int)), (1, .ptr (ik + 1) 0 1), (8, .int .i64 (((R.drop k).foldl (stepN R U) n : Nat) : Int))], mE m ik E') ∧ GoodE (mU R) E' := by
  induction j with
  | zero =>
    intro k n E hk _ hE
    refine ⟨E, ?_, hE⟩
    rw [ring_Apart_2.L0_eq, List.drop_eq_nil_of_le (show R.length ≤ k by omega), List.foldl_nil]
    simp only [ring_Apart_2.B0, exF_seq, exF_region, exF_cond, exF_exit, runL, wantL, stepL, evL, LEnv.at, putL, loadFine, LEnv.keep, List.map_cons, List.map_nil, nbeq, bin_lss, Nat.reduceEqDiff, decide_true, decide_false, cond_true, cond_false, reduceCtorEq, eq_self, show ¬ ((k : Int) < (R.length : Int)) by omega]
  | succ j ih =>
    intro k n E hk hn hE
    have h2 : k < R.length := by omega
    have hkk : (k : Int) < (R.length : Int) := by omega
    have hw := wrap_succ (show k + 1 < 9223372036854775808 by omega)
    have hmem : R[k] ∈ R := List.getElem_mem h2
    obtain ⟨hr12, hrl⟩ := hR _ hmem
    have ra := rowN_at R k h2
    have hset := fun M => set_c false false 1 R[k] hr12 hrl M
    have hcl := ci_len R[k]
    have hsb : setB R[k] < 4096 := setB_lt (n := 12) hr12
    have hand := sand (a := setB R[k]) (b := U) (by omega) (by omega)
    have hor := sor (a := U) (b := setB R[k]) (by omega) (by omega)
    have hrow : rlv (ci R[k]) = .lst false false 1 R[k].length (ints (ci R[k])) := by simp only [rlv, IL, hcl]
    rw [hrow] at ra
    obtain ⟨b, hb, hv, hbr⟩ : ∃ b, b < ik ∧ v = .sl b 0 R.length R.length 1 1 R.length ∧ m[b]? = some ⟨rows R, true⟩ := by
      rcases M.rv with ⟨h, _⟩ | h
      · rw [h] at h2; simp at h2
      · exact h
    have hbm : (mE m ik E)[b]? = some ⟨rows R, true⟩ := by rw [mE_get (by omega)]; exact hbr
    have hbl := get_lt hbr
    have hrwl : (rows R).length = R.length := by simp
    have hcf : ∀ E, (mE m ik E)[ik + 2]? = some ⟨[.func n_ring_Apart_2 [] [.ptr (ik + 1) 0 1, .ptr 0 0 1, .ptr (ik + 2) 0 1]], true⟩ := fun E => by rw [mE_get (by omega)]; exact M.cf
    have hfl := get_lt M.cf
    rw [List.drop_eq_getElem_cons h2, List.foldl_cons]
    subst hv
    have hvw : ∀ E, views (mE m ik E) [.lst false false 1 R[k].length (ints (ci R[k]))] = some ([.lst false false 1 R[k].length (ints (ci R[k]))], []) := fun E => views_pures _ _ (by simp [LV.pures, LV.pure])
    by_cases c : setB R[k] &&& U = 0
    · have c' : ((setB R[k] &&& U : Nat) : Int) = 0 := by omega
      obtain ⟨E1, hc, hE1⟩ := hrec _ hmem c E hE
      have hmu := mU_le R (U ||| setB R[k])
      have hw1 : IntKind.i64.wrap (1 + ((mU R (U ||| setB R[k]) : Nat) : Int)) = ((1 + mU R (U ||| setB R[k]) : Nat) : Int) := by rw [wrap_in (by omega)]; omega
      have hst : stepN R U n R[k] = if n < 1 + mU R (U ||| setB R[k]) then 1 + mU R (U ||| setB R[k]) else n := by unfold stepN; rw [if_pos (decide_eq_true c)]
      have hmax : (if ((n : Nat) : Int) < ((1 + mU R (U ||| setB R[k]) : Nat) : Int) then ((1 + mU R (U ||| setB R[k]) : Nat) : Int) else ((n : Nat) : Int)) = ((stepN R U n R[k] : Nat) : Int) := by
        rw [hst]
        by_cases c3 : n < 1 + mU R (U ||| setB R[k])
        · have c4 : ((n : Nat) : Int) < ((1 + mU R (U ||| setB R[k]) : Nat) : Int) := by omega
          rw [if_pos c3, if_pos c4]
        · have c4 : ¬ ((n : Nat) : Int) < ((1 + mU R (U ||| setB R[k]) : Nat) : Int) := by omega
          rw [if_neg c3, if_neg c4]
      have hsn : stepN R U n R[k] < 1000000001 := by
        rw [hst]
        split <;> omega
      obtain ⟨E2, hex, hE2⟩ := ih (k + 1) (stepN R U n R[k]) E1 (by omega) hsn hE1
      refine ⟨E2, ?_, hE2⟩
      generalize ((R.drop (k + 1)).foldl (stepN R U) (stepN R U n R[k]) : Nat) = fin at *
      generalize (stepN R U n R[k] : Nat) = sn at *
      rw [ring_Apart_2.L0_eq]
      generalize hm1 : mE m ik E = m1 at *
      generalize hm2 : mE m ik E1 = m2 at *
      generalize hm3 : mE m ik E2 = m3 at *
      have hcf1 : m1[ik + 2]? = some ⟨[.func n_ring_Apart_2 [] [.ptr (ik + 1) 0 1, .ptr 0 0 1, .ptr (ik + 2) 0 1]], true⟩ := by rw [← hm1]; exact hcf E
      generalize rows R = RR at *
      generalize ints (ci R[k]) = row at *
      generalize R[k].length = rl at *
      generalize setB R[k] = s at *
      simp only [ring_Apart_2.B0, exF_seq, exF_region, exF_block, exF_cond, exF_skip, runL, wantL, stepL, evL, evC, LEnv.at, putL, loadFine, loadL, cellsAt, Trk.putNew, Trk.up, Trk.touch, Trk.gives, Trk.calm, Trk.hit, opdsOf, Trk.fresh, LEnv.keep, List.map_cons, List.map_nil, nbeq, nble, nblt, ofAVs, bin_add, bin_eql, bin_lss, natL_nat, List.any_cons, List.any_nil, Bool.or_false, Bool.false_or, Bool.true_or, Bool.and_true, Nat.reduceEqDiff, decide_true, decide_false, cond_true, cond_false, List.filter_nil, Nat.reduceAdd, Nat.reduceLeDiff, reduceCtorEq, List.length_nil, List.length_cons, Nat.mul_one, eq_self, List.append_nil, List.nil_append, List.cons_append, List.getElem?_cons_zero, List.take_succ_cons, List.drop_zero, List.take_nil, Nat.le_refl, foldIntL, kind_beq, Nat.zero_add, hkk, h2, hbm, hrwl, ra, hset, hand, c', hor, hcf1, hc, hw1, hmax, hw, hex]
    · have c' : ¬ ((setB R[k] &&& U : Nat) : Int) = 0 := by omega
      have hsn : stepN R U n R[k] = n := by rw [stepN, if_neg (by simpa using c)]
      rw [hsn]
      obtain ⟨E2, hex, hE2⟩ := ih (k + 1) n E (by omega) hn hE
      refine ⟨E2, ?_, hE2⟩
      rw [ring_Apart_2.L0_eq]
      generalize hm1 : mE m ik E = m1 at *
      generalize hm3 : mE m ik E2 = m3 at *
      generalize ((R.drop (k + 1)).foldl (stepN R U) n : Nat) = fin at *
      generalize rows R = RR at *
      generalize ints (ci R[k]) = row at *
      generalize R[k].length = rl at *
      generalize setB R[k] = s at *
      simp only [ring_Apart_2.B0, exF_seq, exF_region, exF_block, exF_cond, exF_skip, runL, wantL, stepL, evL, evC, LEnv.at, putL, loadFine, loadL, cellsAt, Trk.putNew, Trk.up, Trk.touch, Trk.gives, Trk.calm, Trk.hit, opdsOf, Trk.fresh, LEnv.keep, List.map_cons, List.map_nil, nbeq, nble, nblt, ofAVs, bin_add, bin_eql, bin_lss, natL_nat, List.any_cons, List.any_nil, Bool.or_false, Bool.false_or, Bool.true_or, Bool.and_true, Nat.reduceEqDiff, decide_true, decide_false, cond_true, cond_false, List.filter_nil, Nat.reduceAdd, Nat.reduceLeDiff, reduceCtorEq, Nat.mul_one, eq_self, List.append_nil, List.nil_append, Nat.zero_add, hkk, h2, hbm, hrwl, ra, hset, hand, c', hw, hex]
theorem most_c (R : List (List Nat)) (hne : ∀ q ∈ R, q ≠ []) (hR : ∀ r ∈ R, (∀ i ∈ r, i < 12) ∧ r.length < 1000) (hRl : R.length < 1000000000) (v : LV) (ik : Nat) (m : LMem) (M : MA R v ik m) : ∀ (d U : Nat), mU R U ≤ d → U < 4096 → MostOk R ik m U := by
  intro d
  induction d with
  | zero =>
    intro U hd hU
    exact go 0 U hU fun r hr hdis => by
      have := mU_step hne hr hdis
      omega
  | succ d ih =>
    intro U hd hU
    exact go d U hU fun r hr hdis => by
      have := mU_step hne hr hdis
      refine ih _ (by omega) ?_
      exact Nat.or_lt_two_pow (n := 12) hU (setB_lt (hR r hr).1)
where
  go (d U : Nat) (hU : U < 4096) (hrec : ∀ r ∈ R, setB r &&& U = 0 → MostOk R ik m (U ||| setB r)) : MostOk R ik m U := by
    intro E hE
    have hikl : ik < m.length := by have := get_lt M.cm; omega
    have hcm : ∀ E, (mE m ik E)[ik + 1]? = some ⟨[.map ik], true⟩ := fun E => by rw [mE_get (by omega)]; exact M.cm
    have hc0 : ∀ E, (mE m ik E)[0]? = some ⟨[v], true⟩ := fun E => by rw [mE_get (by have := M.pos; omega)]; exact M.c0
    have hend : ∀ E' : List (Nat × LV), trim (mE m ik E).length [.int .i64 ((mU R U : Nat) : Int)] (mE m ik E') = mE m ik E' := fun E' => trim_le _ _ _ (by rw [mE_len, mE_len]; exact Nat.le_refl _)
    rcases goodE_look hE U with hl | ⟨q, hl⟩
    · have hlk : lookL (mE m ik E) true (.int .i64 0) (.map ik) (.int .i64 (U : Int)) = some (.tup [.int .i64 0, .bool false]) := by
        simp only [lookL, LV.isInt, cond_true, entsL, mE_ik hikl, hl]
      obtain ⟨E1, hex, hE1⟩ := most_loop R hR hRl v ik m M U hU hrec R.length 0 0 E (by omega) (by omega) hE
      have hrc := mU_rec hne U
      have hfold : (R.drop 0).foldl (stepN R U) 0 = mU R U := by rw [List.drop_zero]; exact hrc.symm
      rw [hfold] at hex
      obtain ⟨E2, hput, hE2⟩ := goodE_put hE1 U (mE_ik hikl)
      rw [mE_set] at hput
      refine ⟨E2, ?_, hE2⟩
      have hlv : lenL v = some R.length := by
        rcases M.rv with ⟨rfl, rfl⟩ | ⟨b, _, rfl, _⟩ <;> rfl
      rw [← hend E2]
      refine call_W lp_ring_Apart_2 rfl ?_
      simp only [Int.natCast_zero] at hex
      have hcm1 := hcm E
      have hcm2 := hcm E1
      have hc01 := hc0 E
      generalize hm1 : mE m ik E = m1 at *
      generalize hm2 : mE m ik E1 = m2 at *
      generalize hm3 : mE m ik E2 = m3 at *
      generalize (mU R U : Nat) = n at *
      simp only [ring_Apart_2, ring_Apart_2.B, exF_seq, exF_region, exF_block, exF_cond, exF_ret, exF_skip, runL, wantL, stepL, evL, evC, LEnv.at, putL, loadFine, loadL, cellsAt, Trk.calm, Trk.hit, LEnv.keep, LEnv.ofFrom, List.map_cons, List.map_nil, nbeq, nble, ofAV, List.any_nil, Bool.or_false, Bool.false_or, Bool.true_or, Bool.and_true, Nat.reduceEqDiff, decide_true, decide_false, cond_true, cond_false, Nat.reduceAdd, Nat.reduceLeDiff, reduceCtorEq, List.length_nil, List.length_cons, eq_self, retL, resultsL, resAllL, resOfL, List.getElem?_cons_zero, List.getElem?_cons_succ, List.take_succ_cons, List.drop_zero, List.take_nil, Nat.le_refl, hcm1, hlk, hc01, hlv, hex, hcm2, hput]
    · have hlk : lookL (mE m ik E) true (.int .i64 0) (.map ik) (.int .i64 (U : Int)) = some (.tup [.int .i64 ((mU R U : Nat) : Int), .bool true]) := by
        simp only [lookL, LV.isInt, cond_true, entsL, mE_ik hikl, hl]
      refine ⟨E, ?_, hE⟩
      have hcm1 := hcm E
      refine (call_W (v := .int .i64 ((mU R U : Nat) : Int)) (m1 := mE m ik E) lp_ring_Apart_2 rfl ?_).trans (by rw [hend E])
      generalize hm1 : mE m ik E = m1 at *
      generalize (mU R U : Nat) = n at *
      simp only [ring_Apart_2, ring_Apart_2.B, exF_seq, exF_region, exF_cond, exF_ret, runL, wantL, stepL, evL, evC, LEnv.at, putL, loadFine, loadL, cellsAt, Trk.calm, Trk.hit, LEnv.keep, LEnv.ofFrom, List.map_cons, List.map_nil, nbeq, nble, ofAV, List.any_nil, Bool.or_false, Bool.false_or, Bool.true_or, Bool.and_true, Nat.reduceEqDiff, decide_true, decide_false, cond_true, cond_false, Nat.reduceAdd, Nat.reduceLeDiff, reduceCtorEq, List.length_nil, List.length_cons, eq_self, retL, resultsL, resAllL, resOfL, List.getElem?_cons_zero, List.getElem?_cons_succ, List.take_succ_cons, List.drop_zero, List.take_nil, Nat.le_refl, hcm1, hlk]
end Go.Am.Ring


