import Derived.Test.YtheppipmnfjdcaaRingD6
import Derived.Test.YtheppipmnfjdcaaLaw1
/-
  What functions of chapter 04 compute, 32: the most rings apart, of the program.
-/
set_option linter.unusedVariables false
set_option linter.unusedSimpArgs false
set_option maxRecDepth 10000
namespace Go.Am.Ring
open Go.Am.G

theorem mE_self {m : LMem} {ik : Nat} {E : List (Nat × LV)} (h : m[ik]? = some ⟨[.ents (entM E)], true⟩) : mE m ik E = m := by
  have hl := get_lt h
  apply List.ext_getElem?
  intro i
  by_cases c : ik = i
  · subst c
    rw [mE_ik hl, h]
  · rw [mE_get c]
theorem firm_most {R : List (List Nat)} {v : LV} {ik : Nat} {m m2 : LMem} (M : MA R v ik m) (M2 : MA R v ik m2) : firmLoad m2 false 1 (.ptr (ik + 2) 0 1) 2 [some m2, some m] = true := by
  simp only [firmLoad, loadL, M2.cf, M.cf, cellsAt, List.length_cons, List.length_nil, nbeq, Nat.zero_add, decide_true, cond_true, cond_false, List.getElem?_cons_zero, LV.firm, LV.firms, M.cm, M2.cm, M.c0, M2.c0, firmAll, LV.sameF, LV.sameFs, Bool.and_self]
theorem apart_loop (R : List (List Nat)) (hne : ∀ q ∈ R, q ≠ []) (hR : ∀ r ∈ R, (∀ i ∈ r, i < 12) ∧ r.length < 1000) (hRl : R.length < 100000000) (v : LV) (ik : Nat) (j : Nat) : ∀ (k U : Nat) (m : LMem) (E : List (Nat × LV)) (vo : LV) (out : List (List Nat)), k + j = R.length → U < 4096 → MA R v ik m → GoodE (mU R) E → m[ik]? = some ⟨[.ents (entM E)], true⟩ → out.length ≤ k → Lst m vo 1 out.length (rows out) → (∀ i, isBlk vo i → ik + 3 ≤ i) →
    ∃ vo' m', exF LP ring_Apart.L0 [(9, .ptr (ik + 2) 0 1), (10, vo), (11, .int .i64 (U : Int)), (26, v), (27, .int .i64 (R.length : Int)), (28, .int .i64 (k : Int))] m = some (.exit 0, [(10, vo')], m') ∧ Lst m' vo' 1 (out ++ gr R (R.drop k) U).length (rows (out ++ gr R (R.drop k) U)) := by
  induction j with
  | zero =>
    intro k U m E vo out hk hU M hE hm ho hL hb
    refine ⟨vo, m, ?_, by rw [List.drop_eq_nil_of_le (show R.length ≤ k by omega), gr, List.append_nil]; exact hL⟩
    rw [ring_Apart.L0_eq]
    simp only [ring_Apart.B0, exF_seq, exF_region, exF_cond, exF_exit, runL, wantL, stepL, evL, LEnv.at, putL, loadFine, LEnv.keep, List.map_cons, List.map_nil, nbeq, bin_lss, Nat.reduceEqDiff, decide_true, decide_false, cond_true, cond_false, eq_self, show ¬ ((k : Int) < (R.length : Int)) by omega]
  | succ j ih =>
    intro k U m E vo out hk hU M hE hm ho hL hbo
    have h2 : k < R.length := by omega
    have hkk : (k : Int) < (R.length : Int) := by omega
    have hw := wrap_succ (show k + 1 < 9223372036854775808 by omega)
    have hmem : R[k] ∈ R := List.getElem_mem h2
    obtain ⟨hr12, hrl⟩ := hR _ hmem
    have ra := rowN_at R k h2
    have hset := fun M => set_c false false 1 R[k] hr12 hrl M
    have hcl := ci_len R[k]
    have hsb : setB R[k] < 4096 := setB_lt (n := 12) hr12
    have hand := sand (a := setB R[k]) (b := U) (by omega) (by omega)
    have hor := sor (a := U) (b := setB R[k]) (by omega) (by omega)
    have hrow : rlv (ci R[k]) = .lst false false 1 R[k].length (ints (ci R[k])) := by simp only [rlv, IL, hcl]
    rw [hrow] at ra
    obtain ⟨b, hb, rfl, hbr⟩ : ∃ b, b < ik ∧ v = .sl b 0 R.length R.length 1 1 R.length ∧ m[b]? = some ⟨rows R, true⟩ := by
      rcases M.rv with ⟨h, _⟩ | h
      · rw [h] at h2; simp at h2
      · exact h
    have hbl := get_lt hbr
    have hrwl : (rows R).length = R.length := by simp
    have hfl := get_lt M.cf
    have hcf := M.cf
    have hfn : ¬ m.length ≤ ik + 2 := by omega
    rw [List.drop_eq_getElem_cons h2, gr]
    by_cases c : setB R[k] &&& U = 0
    · have c' : ((setB R[k] &&& U : Nat) : Int) = 0 := by omega
      have hU2 : U ||| setB R[k] < 4096 := Nat.or_lt_two_pow (n := 12) hU hsb
      obtain ⟨E1, hc1, hE1⟩ := most_c R hne hR (by omega) _ ik m M _ _ (Nat.le_refl _) hU2 E hE
      obtain ⟨E2, hc2, hE2⟩ := most_c R hne hR (by omega) _ ik m M _ _ (Nat.le_refl _) hU E1 hE1
      rw [mE_self hm] at hc1
      have hmu := mU_le R (U ||| setB R[k])
      have hw1 : IntKind.i64.wrap (1 + ((mU R (U ||| setB R[k]) : Nat) : Int)) = ((1 + mU R (U ||| setB R[k]) : Nat) : Int) := by rw [wrap_in (by omega)]; omega
      have M1 : MA R (.sl b 0 R.length R.length 1 1 R.length) ik (mE m ik E1) := M.mono fun i _ hi => mE_get (fun e => hi e.symm)
      have M2 : MA R (.sl b 0 R.length R.length 1 1 R.length) ik (mE m ik E2) := M.mono fun i _ hi => mE_get (fun e => hi e.symm)
      have hfirm := firm_most M M1
      have hcf1 := M1.cf
      have hL2 : Lst (mE m ik E2) vo 1 out.length (rows out) := hL.mono fun i hi => mE_get (by have := hbo i hi; omega)
      have hm2 : (mE m ik E2)[ik]? = some ⟨[.ents (entM E2)], true⟩ := mE_ik (by omega)
      have hl2 : (mE m ik E2).length = m.length := mE_len
      by_cases c2 : 1 + mU R (U ||| setB R[k]) = mU R U
      · have c2' : ((1 + mU R (U ||| setB R[k]) : Nat) : Int) = ((mU R U : Nat) : Int) := by omega
        rw [if_pos ⟨c, c2⟩]
        obtain ⟨vo3, m3, hap, hL3, hk3, hlen3, hb3⟩ := hL2.append (x := .lst false true 1 1 [.lst false false 1 R[k].length (ints (ci R[k]))]) (k := 1) (news := [.lst false false 1 R[k].length (ints (ci R[k]))]) (bytes := 24) (by simp [contents, nbeq]) rfl (by omega) (by omega) rfl
        have hkeep : ∀ i, i < ik + 3 → m3[i]? = (mE m ik E2)[i]? := fun i hi => hk3 i (by omega) fun h => by have := hbo i h; omega
        have hL3 : Lst m3 vo3 1 (out ++ [R[k]]).length (rows (out ++ [R[k]])) := by
          have e : rows (out ++ [R[k]]) = rows out ++ [.lst false false 1 R[k].length (ints (ci R[k]))] := by rw [← hrow]; simp
          rw [e]; simpa using hL3
        obtain ⟨vo', m', hex, hL'⟩ := ih (k + 1) (U ||| setB R[k]) m3 E2 vo3 (out ++ [R[k]]) (by omega) hU2 (M2.mono fun i hi _ => hkeep i hi) hE2 (by rw [hkeep ik (by omega)]; exact hm2) (by simp; omega) hL3 (fun i hi => by
          rcases hb3 i hi with h | h
          · exact hbo i h
          · omega)
        refine ⟨vo', m', ?_, by rw [List.append_assoc] at hL'; exact hL'⟩
        rw [ring_Apart.L0_eq]
        have hvw : ∀ (M : LMem), views M [.lst false false 1 R[k].length (ints (ci R[k]))] = some ([.lst false false 1 R[k].length (ints (ci R[k]))], []) := fun M => views_pures _ _ (by simp [LV.pures, LV.pure])
        generalize mE m ik E1 = m1 at *
        generalize hm2' : mE m ik E2 = m2 at *
        generalize rows R = RR at *
        generalize ints (ci R[k]) = row at *
        generalize R[k].length = rl at *
        generalize setB R[k] = s at *
        generalize (1 + mU R (U ||| s) : Nat) = n1 at *
        simp only [ring_Apart.B0, beqT, exF_seq, exF_region, exF_block, exF_cond, exF_skip, runL, wantL, stepL, evL, evC, LEnv.at, putL, loadFine, loadL, cellsAt, Trk.putNew, Trk.up, Trk.touch, Trk.gives, Trk.calm, Trk.hit, opdsOf, Trk.fresh, LEnv.keep, List.map_cons, List.map_nil, nbeq, nble, nblt, ofAV, ofAVs, bin_add, bin_eql, bin_lss, natL_nat, List.any_cons, List.any_nil, Bool.or_false, Bool.or_true, Bool.and_true, Bool.false_and, Bool.not_true, Bool.not_false, Nat.reduceEqDiff, decide_true, decide_false, cond_true, cond_false, List.filter_nil, Nat.reduceAdd, Nat.reduceLeDiff, reduceCtorEq, List.length_nil, List.length_cons, Nat.mul_one, eq_self, List.append_nil, List.nil_append, Nat.reduceDiv, List.getElem?_cons_zero, spliceL, List.take_zero, List.take_succ_cons, List.drop_zero, List.drop_succ_cons, List.drop_nil, List.take_nil, Nat.le_refl, fillL, Nat.zero_add, hkk, h2, show ¬ m.length ≤ b by omega, hbr, hrwl, ra, hset, hand, c', hfn, hcf, hor, hc1, hfirm, hcf1, hc2, hw1, c2', hvw, freeze_nil, LV.cells, List.cons_append, hap, hw, hex]
      · have c2' : ¬ ((1 + mU R (U ||| setB R[k]) : Nat) : Int) = ((mU R U : Nat) : Int) := by omega
        rw [if_neg (fun h => c2 h.2)]
        obtain ⟨vo', m', hex, hL'⟩ := ih (k + 1) U (mE m ik E2) E2 vo out (by omega) hU M2 hE2 hm2 (by omega) hL2 hbo
        refine ⟨vo', m', ?_, hL'⟩
        rw [ring_Apart.L0_eq]
        generalize mE m ik E1 = m1 at *
        generalize mE m ik E2 = m2 at *
        generalize rows R = RR at *
        generalize ints (ci R[k]) = row at *
        generalize R[k].length = rl at *
        generalize setB R[k] = s at *
        generalize (1 + mU R (U ||| s) : Nat) = n1 at *
        simp only [ring_Apart.B0, beqT, exF_seq, exF_region, exF_block, exF_cond, exF_skip, runL, wantL, stepL, evL, evC, LEnv.at, putL, loadFine, loadL, cellsAt, Trk.putNew, Trk.up, Trk.touch, Trk.gives, Trk.calm, Trk.hit, opdsOf, Trk.fresh, LEnv.keep, List.map_cons, List.map_nil, nbeq, nble, nblt, ofAVs, bin_add, bin_eql, bin_lss, natL_nat, List.any_cons, List.any_nil, Bool.or_false, Bool.or_true, Bool.and_true, Bool.false_and, Bool.not_true, Bool.not_false, Nat.reduceEqDiff, decide_true, decide_false, cond_true, cond_false, List.filter_nil, Nat.reduceAdd, Nat.reduceLeDiff, reduceCtorEq, List.length_nil, List.length_cons, Nat.mul_one, eq_self, List.append_nil, List.nil_append, List.cons_append, List.getElem?_cons_zero, List.take_succ_cons, List.drop_zero, List.take_nil, Nat.le_refl, Nat.zero_add, hkk, h2, show ¬ m.length ≤ b by omega, hbr, hrwl, ra, hset, hand, c', hfn, hcf, hor, hc1, hfirm, hcf1, hc2, hw1, c2', hw, hex]
    · have c' : ¬ ((setB R[k] &&& U : Nat) : Int) = 0 := by omega
      rw [if_neg (fun h => c h.1)]
      obtain ⟨vo', m', hex, hL'⟩ := ih (k + 1) U m E vo out (by omega) hU M hE hm (by omega) hL hbo
      refine ⟨vo', m', ?_, hL'⟩
      rw [ring_Apart.L0_eq]
      generalize rows R = RR at *
      generalize ints (ci R[k]) = row at *
      generalize R[k].length = rl at *
      generalize setB R[k] = s at *
      simp only [ring_Apart.B0, beqT, exF_seq, exF_region, exF_block, exF_cond, exF_skip, runL, wantL, stepL, evL, evC, LEnv.at, putL, loadFine, loadL, cellsAt, Trk.putNew, Trk.up, Trk.touch, Trk.gives, Trk.calm, Trk.hit, opdsOf, Trk.fresh, LEnv.keep, List.map_cons, List.map_nil, nbeq, nble, nblt, ofAVs, bin_add, bin_eql, bin_lss, natL_nat, List.any_cons, List.any_nil, Bool.or_false, Bool.or_true, Bool.and_true, Bool.false_and, Bool.not_true, Bool.not_false, Nat.reduceEqDiff, decide_true, decide_false, cond_true, cond_false, List.filter_nil, Nat.reduceAdd, Nat.reduceLeDiff, Nat.mul_one, eq_self, List.append_nil, List.nil_append, Nat.zero_add, hkk, h2, show ¬ m.length ≤ b by omega, hbr, hrwl, ra, hset, hand, c', hw, hex]
theorem allR_ok {n : Nat} {P : List (Nat × Nat)} (G : Good n P) : (∀ q ∈ allR P, q ≠ []) ∧ ∀ r ∈ allR P, (∀ i ∈ r, i < 12) ∧ r.length < 1000 := by
  have h : ∀ r ∈ allR P, Beg n P r := fun r hr => by
    have := ((allR_mem G r).1 hr).1
    exact ⟨this.ne, this.lt, this.nd⟩
  exact ⟨fun q hq => (h q hq).ne, fun r hr => ⟨fun i hi => Nat.lt_of_lt_of_le ((h r hr).lt i hi) G.le12, by have := (h r hr).len G; omega⟩⟩
theorem apart_c {n : Nat} {P : List (Nat × Nat)} (G : Good n P) (nl ex : Bool) (sz : Nat) : ∃ a b z, ∀ m, clF LP n_ring_Apart [.int .i64 (n : Int), FN nl ex sz P] m = some (.P, .tup [.lst a b z (ap (allR P)).length (rows (ap (allR P))), .int .i64 0], m) := by
  have hc := fun m => check_c nl ex sz (n : Int) (P.map castP) (by have := G.le12; simp; omega) m
  rw [chkF_of G] at hc
  have hcell : ∀ M : LMem, M = [⟨[.lst true true 0 0 []], true⟩] → Cl M := by
    rintro M rfl i hi b hb
    rw [List.mem_singleton.1 hb]; rfl
  obtain ⟨m1, O', hr, hI⟩ := rings_c (m := [⟨[.lst true true 0 0 []], true⟩]) apVis G nl ex sz [] [0] (.inl ⟨rfl, rfl, rfl⟩) (hcell _ rfl) rfl rfl
  have hr : clF LP n_ring_rings [FN nl ex sz P, .func n_ring_Apart_1 [] [.ptr 0 0 1]] [⟨[.lst true true 0 0 []], true⟩] = some (.W, .tup [], m1) := hr
  have hI : apI (allR P) O' m1 := by
    have := hI
    rw [ap_all, List.nil_append] at this
    exact this
  obtain ⟨hne, hok⟩ := allR_ok G
  have hlen := allR_len G
  obtain ⟨v, hv0, hrv⟩ : ∃ v, m1[0]? = some ⟨[v], true⟩ ∧ RowV m1 v m1.length (allR P) := by
    rcases hI with ⟨h0, h1, _⟩ | ⟨h0, b, hb, h1, h2, _⟩
    · exact ⟨_, h1, .inl ⟨h0, rfl⟩⟩
    · exact ⟨_, h1, .inr ⟨b, get_lt h2, rfl, h2⟩⟩
  have hpos := get_lt hv0
  generalize hR : allR P = R at *
  let m3 : LMem := m1 ++ [⟨[.ents []], true⟩] ++ [⟨[.map m1.length], true⟩] ++ [⟨[.func n_ring_Apart_2 [] [.ptr (m1.length + 1) 0 1, .ptr 0 0 1, .ptr (m1.length + 2) 0 1]], true⟩]
  have g : ∀ i, i < m1.length → m3[i]? = m1[i]? := fun i hi => by simp only [m3]; rw [List.getElem?_append_left (by simp; omega), List.getElem?_append_left (by simp; omega), List.getElem?_append_left hi]
  have M : MA R v m1.length m3 := by
    refine ⟨hpos, by rw [g 0 hpos]; exact hv0, ?_, by simp [m3], by simp [m3]⟩
    rcases hrv with h | ⟨b, h1, h2, h3⟩
    · exact .inl h
    · exact .inr ⟨b, h1, h2, by rw [g b h1]; exact h3⟩
  have hik : m3[m1.length]? = some ⟨[.ents (entM [])], true⟩ := by simp [m3, entM]
  obtain ⟨vo', m', hex, hL⟩ := apart_loop R hne hok (by omega) v m1.length R.length 0 0 m3 [] (.lst true true 0 0 []) [] (by omega) (by omega) M (by intro e he; simp at he) hik (by simp) (Lst.nil _ 1) (by simp [isBlk])
  rw [List.drop_zero, List.nil_append, gr_all hne] at hL
  obtain ⟨a, b, z, ids, hz, _, _, hvw⟩ := hL.view (rows_pures _) (by omega)
  refine ⟨a, b, z, fun m => ?_⟩
  have hv2 : view 100 m' (.tup [vo', .int .i64 0]) = some (.tup [.lst a b z (ap R).length (rows (ap R)), .int .i64 0], ids) := by
    by_cases hp : LV.pures [vo', .int .i64 0] = true
    · have e1 := hvw 97
      have hvp : vo'.pure = true := by simpa [LV.pures, LV.pure] using hp
      rw [view_pure 98 m' vo' hvp] at e1
      simp only [Option.some.injEq, Prod.mk.injEq] at e1
      obtain ⟨e1, e2⟩ := e1
      rw [view_pure 98 m' _ (by simpa [LV.pure] using hp), ← e2, e1]
    · exact view_tup2 m' vo' (.int .i64 0) _ ids hvw rfl (by simpa using hp)
  refine call_Pv lp_ring_Apart rfl (by simp [LV.pures, LV.pure]) (m1 := m') (v := .tup [vo', .int .i64 0]) (ids := ids) ?_ hv2 m
  have hlv : lenL v = some R.length := by
    rcases hrv with ⟨rfl, rfl⟩ | ⟨b, _, rfl, _⟩ <;> rfl
  have e1 : ∀ x : LBlk, (m1 ++ [x]).length = m1.length + 1 := fun x => by simp
  have e2 : ∀ x y : LBlk, (m1 ++ [x] ++ [y]).length = m1.length + 2 := fun x y => by simp
  have s1 : ((m1 ++ [⟨[.ents []], true⟩] ++ [⟨[LV.nilmap], true⟩] : LMem))[m1.length + 1]? = some ⟨[LV.nilmap], true⟩ := by simp
  have s2 : ((m1 ++ [⟨[.ents []], true⟩] ++ [⟨[LV.nilmap], true⟩] : LMem).set (m1.length + 1) ⟨[.map m1.length], true⟩) = m1 ++ [⟨[.ents []], true⟩] ++ [⟨[.map m1.length], true⟩] := by
    refine Eq.trans ?_ (set_last (m1 ++ [⟨[.ents []], true⟩]) ⟨[LV.nilmap], true⟩ ⟨[.map m1.length], true⟩)
    congr 1
    simp
  have s3 : ((m1 ++ [⟨[.ents []], true⟩] ++ [⟨[.map m1.length], true⟩] ++ [⟨[LV.nilFunc], true⟩] : LMem))[m1.length + 2]? = some ⟨[LV.nilFunc], true⟩ := by simp
  have s4 : ((m1 ++ [⟨[.ents []], true⟩] ++ [⟨[.map m1.length], true⟩] ++ [⟨[LV.nilFunc], true⟩] : LMem).set (m1.length + 2) ⟨[.func n_ring_Apart_2 [] [.ptr (m1.length + 1) 0 1, .ptr 0 0 1, .ptr (m1.length + 2) 0 1]], true⟩) = m3 := by
    refine Eq.trans ?_ (set_last (m1 ++ [⟨[.ents []], true⟩] ++ [⟨[.map m1.length], true⟩]) ⟨[LV.nilFunc], true⟩ ⟨[.func n_ring_Apart_2 [] [.ptr (m1.length + 1) 0 1, .ptr 0 0 1, .ptr (m1.length + 2) 0 1]], true⟩)
    congr 1
    simp
  have hc03 := M.c0
  simp only [Int.natCast_zero] at hex
  simp only [FN_eq] at hc hr ⊢
  simp only [ring_Apart, ring_Apart.B, exF_seq, exF_region, exF_block, exF_cond, exF_ret, exF_skip, runL, wantL, stepL, evL, evC, LEnv.at, putL, loadFine, loadL, cellsAt, Trk.calm, Trk.hit, LEnv.keep, LEnv.ofFrom, List.map_cons, List.map_nil, nbeq, nble, ofAV, ofAVs, bin_neq, List.any_nil, Bool.or_false, Bool.false_or, Bool.true_or, Bool.and_true, Nat.reduceEqDiff, decide_true, decide_false, cond_true, cond_false, Nat.reduceAdd, Nat.reduceLeDiff, reduceCtorEq, List.length_nil, List.length_cons, eq_self, retL, resultsL, resAllL, resOfL, List.append_nil, List.nil_append, not_true_eq_false, ne_eq, allocL, List.getElem?_cons_zero, storeL, spliceL, List.take_zero, List.take_succ_cons, List.drop_zero, List.drop_succ_cons, List.drop_nil, List.take_nil, Nat.le_refl, List.all_cons, List.all_nil, hc, hr, e1, e2, s1, s2, s3, s4, hc03, hlv, hex, LV.cells, LV.scalar]
end Go.Am.Ring

/-
  What functions of chapter 04 compute, 33: the most rings apart, of the reference, and the law RingAparts.
-/
set_option linter.unusedVariables false
set_option linter.unusedSimpArgs false
set_option maxRecDepth 10000
namespace Go.Am.Ring
open Go.Am.G

end Go.Am.Ring


