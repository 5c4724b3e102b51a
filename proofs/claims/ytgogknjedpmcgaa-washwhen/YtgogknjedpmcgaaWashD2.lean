/-
  What functions of chapter 13 compute, outright 2: the law 'WashWhen'.
-/
import Derived.Test.YtgogknjedpmcgaaWashD1
import Derived.Test.YtgogknjedpmcgaaWashWorks
set_option linter.unusedVariables false
set_option linter.unusedSimpArgs false
set_option maxRecDepth 10000
namespace Go.Am.Wash
open Go.Am.G

theorem chkG_td (N : Nat) : ∀ (t pre : List Nat), (pre ++ t).Nodup → (∀ x ∈ t, x < N) → chkG (N : Int) (ci pre) (ci t) = 0
  | [], pre, _, _ => rfl
  | x :: r, pre, h, hl => by
    have hx := hl x (by simp)
    have h2 : ¬ (x : Int) ∈ ci pre := by
      rw [ci_mem]
      intro c
      have := List.nodup_append.1 h
      exact this.2.2 x c x (by simp) rfl
    have ih := chkG_td N r (pre ++ [x]) (by simpa using h) (fun y hy => hl y (by simp [hy]))
    show chkG (N : Int) (ci pre) ((x : Int) :: ci r) = 0
    rw [chkG, if_neg (fun c => c ⟨by omega, by omega⟩), if_neg h2]
    have e : ci (pre ++ [x]) = ci pre ++ [(x : Int)] := by simp
    rw [e] at ih
    exact ih
theorem Td.chk {t : List Nat} (D : Td t) : chkT (ci t) = 0 := by
  unfold chkT
  rw [ci_len, if_neg (fun c => c ⟨D.h1, D.h7⟩)]
  exact chkG_td t.length t [] (by simpa using D.T.2.1) D.lt
/-- After so many tides all is back. -/
theorem Known.per {t : List Nat} {R : List (List Nat)} {n : Nat} (K : Known t R n) {x : Nat} (hx : x < t.length) : it t n x = x := by
  obtain ⟨l, hl, hxl⟩ := K.cov x hx
  obtain ⟨p, e, hp⟩ := K.ring hl
  obtain ⟨h0, _, hn, _⟩ := K.rows l hl
  obtain ⟨j, hj, ej⟩ := mem_nth hxl
  rw [e, orb_at t p _ j hj] at ej
  have hm : it t l.length x = x := by
    rw [← ej, ← it_add, Nat.add_comm, it_add, hp]
  have e2 : n = (n / l.length) * l.length := by
    have := Nat.div_add_mod n l.length
    rw [hn, Nat.add_zero, Nat.mul_comm] at this
    exact this.symm
  rw [e2]
  exact it_mul t l.length x hm _
theorem aftV_at (t : List Nat) (k x : Nat) (hx : x < t.length) : nth (aftV t k) x = it t k x := by
  rw [nth_at' _ _ (by simpa [aftV] using hx)]
  simp [aftV]
theorem aftV_ln (t : List Nat) (k : Nat) : (aftV t k).length = t.length := by simp [aftV]
theorem aftV_mod {t : List Nat} {R : List (List Nat)} {n : Nat} (K : Known t R n) (k : Nat) : aftV t ((k : Int) % (n : Int)).toNat = aftV t k := by
  have e : ((k : Int) % (n : Int)).toNat = k % n := by
    have : ((k : Int) % (n : Int)) = ((k % n : Nat) : Int) := by simp
    rw [this, Int.toNat_natCast]
  rw [e]
  apply list_nth_ext (by simp [aftV])
  intro x hx
  rw [aftV_ln] at hx
  rw [aftV_at _ _ _ hx, aftV_at _ _ _ hx, it_mod t n x (K.per hx)]
theorem bytes_nat : ∀ (ns : List Int), (∀ n ∈ ns, 0 ≤ n ∧ n < 256) → ∃ bs : List Nat, ns = ci bs ∧ ∀ b ∈ bs, b < 256
  | [], _ => ⟨[], rfl, by simp⟩
  | n :: r, h => by
    obtain ⟨bs, e, hb⟩ := bytes_nat r fun x hx => h x (by simp [hx])
    obtain ⟨h0, h1⟩ := h n (by simp)
    obtain ⟨k, rfl⟩ := Int.eq_ofNat_of_zero_le h0
    refine ⟨k :: bs, by rw [e]; rfl, ?_⟩
    intro b hb'
    rcases List.mem_cons.1 hb' with rfl | hb'
    · omega
    · exact hb b hb'
/-- A swell's bytes. -/
theorem swell_nat {ns : List Int} (hl : ns.length = 8) (hb : ∀ n ∈ ns, 0 ≤ n ∧ n < 256) : ∃ (p : Nat) (bs : List Nat), ns.map (LV.int .u8) = bys (p :: bs) ∧ p < 256 ∧ bs.length = 7 ∧ ∀ b ∈ bs, b < 256 := by
  obtain ⟨l, rfl, h⟩ := bytes_nat ns hb
  rw [ci_len] at hl
  match l, hl, h with
  | p :: bs, hl, h => exact ⟨p, bs, rfl, h p (by simp), by simpa using hl, fun b hb => h b (by simp [hb])⟩

theorem whenO_loop (nl ex : Bool) {t : List Nat} (D : Td t) {R : List (List Nat)} {n : Nat} (K : Known t R n) (p to : Nat) (hp : p < t.length) (kk ee : Int) (m : LMem) (d : Nat) : ∀ (j : Nat), j + d = t.length → (∀ i, whF t to d j (it t j p) = some i → kk = (i : Int) ∧ ee = 0) →
    exF LP law13_WashWhen.L0 [(7, IL nl ex 1 (ci t)), (8, .int .i64 (t.length : Int)), (9, .int .i64 (p : Int)), (10, .int .i64 (to : Int)), (11, .int .i64 kk), (12, .int .i64 ee), (13, .int .i64 ((it t j p : Nat) : Int)), (37, .int .i64 (t.length : Int)), (38, .int .i64 (j : Int))] m =
      match whF t to d j (it t j p) with
      | some i => some (.ret, [(6, .bool true)], m)
      | none => some (.exit 0, [(11, .int .i64 kk), (12, .int .i64 ee)], m) := by
  have h7 := D.h7
  induction d with
  | zero =>
    intro j hj _
    rw [law13_WashWhen.L0_eq]
    simp only [law13_WashWhen.B0, beqT, beqF, exF_seq, exF_region, exF_block, exF_cond, exF_ret, exF_exit, exF_skip, runL, wantL, stepL, evL, LEnv.at, putL, loadFine, loadL, cellsAt, Trk.putNew, Trk.up, Trk.touch, Trk.gives, Trk.calm, Trk.hit, opdsOf, Trk.fresh, LEnv.keep, LEnv.ofFrom, List.map_cons, List.map_nil, nbeq, nble, nblt, ofAV, ofAVs, lenL, bin_add, bin_sub, bin_mul, bin_eql, bin_neq, bin_lss, bin_leq, bin_gtr, bin_geq, natL_nat, natL_zero, natL_one, natL_two, Nat.zero_mul, List.any_cons, List.any_nil, Bool.or_false, Bool.false_or, Bool.true_or, Bool.or_true, Bool.and_true, Bool.true_and, Bool.and_false, Bool.false_and, Bool.not_true, Bool.not_false, Nat.reduceBEq, Nat.reduceEqDiff, decide_true, decide_false, cond_true, cond_false, List.filter_nil, List.filter_cons, Nat.reduceAdd, Nat.reduceLeDiff, reduceCtorEq, List.length_nil, List.length_cons, Nat.mul_one, if_true, if_false, Bool.false_eq_true, eq_self, and_true, true_and, retL, resultsL, resAllL, resOfL, List.append_nil, List.nil_append, List.cons_append, true_or, or_true, false_or, or_false, false_and, and_false, not_true_eq_false, not_false_eq_true, ne_eq, unL, trim_nil, views_pures, LV.pures, LV.pure, freeze, Nat.reduceDiv, Int.reduceEq, Int.reduceLT, Int.reduceLE, Int.natCast_zero, LV.cells, allocL, List.getElem?_cons_zero, List.getElem?_cons_succ, storeL, spliceL, List.take_zero, List.take_succ_cons, List.drop_zero, List.drop_succ_cons, List.drop_nil, List.take_nil, Nat.le_refl, Nat.reduceMul, List.set_cons_zero, List.set_cons_succ, LV.scalar, List.all_cons, List.all_nil, Nat.lt_add_one, Nat.zero_lt_one, Nat.reduceLT, Nat.lt_irrefl, fillL, List.length_append, foldIntL, kind_beq, pures_int, solids_int, plains_int, unders_int, scalars_int, show ¬ ((j : Int) < (t.length : Int)) by omega, whF]
  | succ d ih =>
    intro j hj hke
    obtain ⟨a, b, ha⟩ := afterP_c nl ex D K D.chk (j : Int) (by simp [inB]; omega)
    rw [aftV_mod K] at ha
    have hx : it t j p < t.length := it_lt D.lt hp j
    have hcell : ((ci (aftV t j)).map (LV.int .i64))[p]? = some (.int .i64 ((it t j p : Nat) : Int)) := by
      rw [ci_map, nat_at _ _ _ (by rw [aftV_ln]; exact hp), ← nth_at' _ _ (by rw [aftV_ln]; exact hp), aftV_at _ _ _ hp]
    have hnow : ((ci t).map (LV.int .i64))[it t j p]? = some (.int .i64 ((it t (j + 1) p : Nat) : Int)) := by
      rw [ci_map, nat_at _ _ _ hx, ← nth_at' _ _ hx]; rfl
    have hl1 : (ci (aftV t j)).length = t.length := by rw [ci_len, aftV_ln]
    have hl2 : (ci t).length = t.length := ci_len t
    rw [law13_WashWhen.L0_eq]
    by_cases c : it t j p = to
    · have e : whF t to (d + 1) j (it t j p) = some j := by rw [whF, if_pos c]
      obtain ⟨e1, e2⟩ := hke j e
      rw [e]
      subst e1 e2 c
      generalize ci (aftV t j) = w at *
      generalize ci t = tt at *
      simp only [law13_WashWhen.B0, beqT, beqF, exF_seq, exF_region, exF_block, exF_cond, exF_ret, exF_exit, exF_skip, runL, wantL, stepL, evL, LEnv.at, putL, loadFine, loadL, cellsAt, Trk.putNew, Trk.up, Trk.touch, Trk.gives, Trk.calm, Trk.hit, opdsOf, Trk.fresh, LEnv.keep, LEnv.ofFrom, List.map_cons, List.map_nil, nbeq, nble, nblt, ofAV, ofAVs, lenL, bin_add, bin_sub, bin_mul, bin_eql, bin_neq, bin_lss, bin_leq, bin_gtr, bin_geq, natL_nat, natL_zero, natL_one, natL_two, Nat.zero_mul, List.any_cons, List.any_nil, Bool.or_false, Bool.false_or, Bool.true_or, Bool.or_true, Bool.and_true, Bool.true_and, Bool.and_false, Bool.false_and, Bool.not_true, Bool.not_false, Nat.reduceBEq, Nat.reduceEqDiff, decide_true, decide_false, cond_true, cond_false, List.filter_nil, List.filter_cons, Nat.reduceAdd, Nat.reduceLeDiff, reduceCtorEq, List.length_nil, List.length_cons, Nat.mul_one, if_true, if_false, Bool.false_eq_true, eq_self, and_true, true_and, retL, resultsL, resAllL, resOfL, List.append_nil, List.nil_append, List.cons_append, true_or, or_true, false_or, or_false, false_and, and_false, not_true_eq_false, not_false_eq_true, ne_eq, unL, trim_nil, views_pures, LV.pures, LV.pure, freeze, Nat.reduceDiv, Int.reduceEq, Int.reduceLT, Int.reduceLE, Int.natCast_zero, LV.cells, allocL, List.getElem?_cons_zero, List.getElem?_cons_succ, storeL, spliceL, List.take_zero, List.take_succ_cons, List.drop_zero, List.drop_succ_cons, List.drop_nil, List.take_nil, Nat.le_refl, Nat.reduceMul, List.set_cons_zero, List.set_cons_succ, LV.scalar, List.all_cons, List.all_nil, Nat.lt_add_one, Nat.zero_lt_one, Nat.reduceLT, Nat.lt_irrefl, fillL, List.length_append, foldIntL, kind_beq, pures_int, solids_int, plains_int, unders_int, scalars_int, show ((j : Int) < (t.length : Int)) by omega, ha, hl1, hp, hcell, works_c]
    · have e : whF t to (d + 1) j (it t j p) = whF t to d (j + 1) (it t (j + 1) p) := by rw [whF, if_neg c]; rfl
      rw [e] at hke ⊢
      have ih := ih (j + 1) (by omega) hke
      have c' : ¬ ((it t j p : Nat) : Int) = (to : Int) := by omega
      generalize ci (aftV t j) = w at *
      generalize ci t = tt at *
      generalize it t (j + 1) p = y at *
      generalize it t j p = z at *
      simp only [law13_WashWhen.B0, beqT, beqF, exF_seq, exF_region, exF_block, exF_cond, exF_ret, exF_exit, exF_skip, runL, wantL, stepL, evL, LEnv.at, putL, loadFine, loadL, cellsAt, Trk.putNew, Trk.up, Trk.touch, Trk.gives, Trk.calm, Trk.hit, opdsOf, Trk.fresh, LEnv.keep, LEnv.ofFrom, List.map_cons, List.map_nil, nbeq, nble, nblt, ofAV, ofAVs, lenL, bin_add, bin_sub, bin_mul, bin_eql, bin_neq, bin_lss, bin_leq, bin_gtr, bin_geq, natL_nat, natL_zero, natL_one, natL_two, Nat.zero_mul, List.any_cons, List.any_nil, Bool.or_false, Bool.false_or, Bool.true_or, Bool.or_true, Bool.and_true, Bool.true_and, Bool.and_false, Bool.false_and, Bool.not_true, Bool.not_false, Nat.reduceBEq, Nat.reduceEqDiff, decide_true, decide_false, cond_true, cond_false, List.filter_nil, List.filter_cons, Nat.reduceAdd, Nat.reduceLeDiff, reduceCtorEq, List.length_nil, List.length_cons, Nat.mul_one, if_true, if_false, Bool.false_eq_true, eq_self, and_true, true_and, retL, resultsL, resAllL, resOfL, List.append_nil, List.nil_append, List.cons_append, true_or, or_true, false_or, or_false, false_and, and_false, not_true_eq_false, not_false_eq_true, ne_eq, unL, trim_nil, views_pures, LV.pures, LV.pure, freeze, Nat.reduceDiv, Int.reduceEq, Int.reduceLT, Int.reduceLE, Int.natCast_zero, LV.cells, allocL, List.getElem?_cons_zero, List.getElem?_cons_succ, storeL, spliceL, List.take_zero, List.take_succ_cons, List.drop_zero, List.drop_succ_cons, List.drop_nil, List.take_nil, Nat.le_refl, Nat.reduceMul, List.set_cons_zero, List.set_cons_succ, LV.scalar, List.all_cons, List.all_nil, Nat.lt_add_one, Nat.zero_lt_one, Nat.reduceLT, Nat.lt_irrefl, fillL, List.length_append, foldIntL, kind_beq, pures_int, solids_int, plains_int, unders_int, scalars_int, show ((j : Int) < (t.length : Int)) by omega, ha, hl1, hl2, hp, hx, hcell, hnow, c', wrap_succ (show j + 1 < 9223372036854775808 by omega), ih]
theorem when_in (ns : List Int) (hl : ns.length = 8) (hb : ∀ n ∈ ns, 0 ≤ n ∧ n < 256) (one : Int) (ho : 0 ≤ one ∧ one < 256) (two : Int) (ht : 0 ≤ two ∧ two < 256) :
    clF LP n_law13_WashWhen [.agg (ns.map (LV.int .u8)), .int .u8 one, .int .u8 two] [] = some (.P, .bool true, []) := by
  obtain ⟨p, bs, e, hp, hb7, hbb⟩ := swell_nat hl hb
  obtain ⟨one, rfl⟩ := Int.eq_ofNat_of_zero_le ho.1
  obtain ⟨two, rfl⟩ := Int.eq_ofNat_of_zero_le ht.1
  rw [e]
  clear e hb hl
  have hm := fun m => made_c p hp 7 (by omega) (by omega) bs hb7 hbb m
  simp only [show ((7 : Nat) : Int) = 7 from rfl] at hm
  have hk : p % 7 < 7 := Nat.mod_lt _ (by omega)
  obtain ⟨D, hdl⟩ := drawN_td (show 1 ≤ 1 + p % 7 by omega) (show 1 + p % 7 ≤ 7 by omega) bs
  generalize drawN (1 + p % 7) bs = t at *
  have h1 := D.h1
  have h7 := D.h7
  obtain ⟨R, n, K⟩ := known D.T D.h1 D.h7
  have hbl : (bys (p :: bs)).length = 8 := by simp [hb7]
  have hps : LV.pures (bys (p :: bs)) = true := pures_int _ _
  have htk : (bys (p :: bs)).take 8 = bys (p :: bs) := List.take_of_length_le (by omega)
  have hw1 : IntKind.i64.wrap ((one : Nat) : Int) = ((one : Nat) : Int) := wrap_in (by omega)
  have hw2 : IntKind.i64.wrap ((two : Nat) : Int) = ((two : Nat) : Int) := wrap_in (by omega)
  have hr1 : binL .rem (.int .i64 ((one : Nat) : Int)) (.int .i64 (t.length : Int)) = some (.int .i64 ((one % t.length : Nat) : Int)) := by
    rw [bin_rem _ _ _ (show (t.length : Int) ≠ 0 by omega)]; rfl
  have hr2 : binL .rem (.int .i64 ((two : Nat) : Int)) (.int .i64 (t.length : Int)) = some (.int .i64 ((two % t.length : Nat) : Int)) := by
    rw [bin_rem _ _ _ (show (t.length : Int) ≠ 0 by omega)]; rfl
  have hfl : one % t.length < t.length := Nat.mod_lt _ (by omega)
  have htl : two % t.length < t.length := Nat.mod_lt _ (by omega)
  generalize one % t.length = fr at *
  generalize two % t.length = to at *
  generalize bys (p :: bs) = w8 at *
  have hl2 : (ci t).length = t.length := ci_len t
  have hwh := fun m => whenP_c false false (ci t) (by rw [ci_len]; omega) (fr : Int) (to : Int) m
  have hloop := fun kk ee h => whenO_loop false false D K fr to hfl kk ee [⟨w8, true⟩] t.length 0 (by omega) h
  have hwv : whenV (ci t) (fr : Int) (to : Int) = match whF t to t.length 0 fr with
      | some k => ((k : Int), 0)
      | none => (0, 12) := by
    unfold whenV
    rw [D.chk, ci_toNat, ci_len]
    have i1 : inB 0 ((t.length : Int) - 1) (fr : Int) = true := by simp only [inB, decide_eq_true_eq]; omega
    have i2 : inB 0 ((t.length : Int) - 1) (to : Int) = true := by simp only [inB, decide_eq_true_eq]; omega
    simp only [Int.toNat_natCast, i1, i2]
    rw [if_neg (by simp), if_neg (by simp)]
    cases whF t to t.length 0 fr <;> rfl
  simp only [it, Int.natCast_zero] at hloop
  refine call_P lp_law13_WashWhen rfl (by simp only [LV.pures, LV.pure, hps, Bool.and_true]) (m1 := [⟨w8, true⟩]) ?_ rfl []
  cases hw : whF t to t.length 0 fr with
  | none =>
    have hlo := hloop 0 12 (by intro i h; rw [hw] at h; cases h)
    rw [hw] at hlo hwv
    simp only [hwv] at hwh
    dsimp only at hlo
    generalize ci t = tt at *
    simp only [law13_WashWhen, law13_WashWhen.B, beqT, beqF, exF_seq, exF_region, exF_block, exF_cond, exF_ret, exF_exit, exF_skip, runL, wantL, stepL, evL, LEnv.at, putL, loadFine, loadL, cellsAt, Trk.putNew, Trk.up, Trk.touch, Trk.gives, Trk.calm, Trk.hit, opdsOf, Trk.fresh, LEnv.keep, LEnv.ofFrom, List.map_cons, List.map_nil, nbeq, nble, nblt, ofAV, ofAVs, lenL, bin_add, bin_sub, bin_mul, bin_eql, bin_neq, bin_lss, bin_leq, bin_gtr, bin_geq, natL_nat, natL_zero, natL_one, natL_two, Nat.zero_mul, List.any_cons, List.any_nil, Bool.or_false, Bool.false_or, Bool.true_or, Bool.or_true, Bool.and_true, Bool.true_and, Bool.and_false, Bool.false_and, Bool.not_true, Bool.not_false, Nat.reduceBEq, Nat.reduceEqDiff, decide_true, decide_false, cond_true, cond_false, List.filter_nil, List.filter_cons, Nat.reduceAdd, Nat.reduceLeDiff, reduceCtorEq, List.length_nil, List.length_cons, Nat.mul_one, if_true, if_false, Bool.false_eq_true, eq_self, and_true, true_and, retL, resultsL, resAllL, resOfL, List.append_nil, List.nil_append, List.cons_append, true_or, or_true, false_or, or_false, false_and, and_false, not_true_eq_false, not_false_eq_true, ne_eq, unL, trim_nil, views_pures, LV.pures, LV.pure, freeze, Nat.reduceDiv, Int.reduceEq, Int.reduceLT, Int.reduceLE, Int.natCast_zero, LV.cells, allocL, List.getElem?_cons_zero, List.getElem?_cons_succ, storeL, spliceL, List.take_zero, List.take_succ_cons, List.drop_zero, List.drop_succ_cons, List.drop_nil, List.take_nil, Nat.le_refl, Nat.reduceMul, List.set_cons_zero, List.set_cons_succ, LV.scalar, List.all_cons, List.all_nil, Nat.lt_add_one, Nat.zero_lt_one, Nat.reduceLT, Nat.lt_irrefl, fillL, List.length_append, foldIntL, kind_beq, pures_int, solids_int, plains_int, unders_int, scalars_int, hl2, hbl, htk, hm, hw1, hw2, hr1, hr2, hwh, hlo, works_c]
  | some k =>
    have hlo := hloop (k : Int) 0 (by intro i h; rw [hw] at h; cases h; exact ⟨rfl, rfl⟩)
    rw [hw] at hlo hwv
    simp only [hwv] at hwh
    dsimp only at hlo
    generalize ci t = tt at *
    simp only [law13_WashWhen, law13_WashWhen.B, beqT, beqF, exF_seq, exF_region, exF_block, exF_cond, exF_ret, exF_exit, exF_skip, runL, wantL, stepL, evL, LEnv.at, putL, loadFine, loadL, cellsAt, Trk.putNew, Trk.up, Trk.touch, Trk.gives, Trk.calm, Trk.hit, opdsOf, Trk.fresh, LEnv.keep, LEnv.ofFrom, List.map_cons, List.map_nil, nbeq, nble, nblt, ofAV, ofAVs, lenL, bin_add, bin_sub, bin_mul, bin_eql, bin_neq, bin_lss, bin_leq, bin_gtr, bin_geq, natL_nat, natL_zero, natL_one, natL_two, Nat.zero_mul, List.any_cons, List.any_nil, Bool.or_false, Bool.false_or, Bool.true_or, Bool.or_true, Bool.and_true, Bool.true_and, Bool.and_false, Bool.false_and, Bool.not_true, Bool.not_false, Nat.reduceBEq, Nat.reduceEqDiff, decide_true, decide_false, cond_true, cond_false, List.filter_nil, List.filter_cons, Nat.reduceAdd, Nat.reduceLeDiff, reduceCtorEq, List.length_nil, List.length_cons, Nat.mul_one, if_true, if_false, Bool.false_eq_true, eq_self, and_true, true_and, retL, resultsL, resAllL, resOfL, List.append_nil, List.nil_append, List.cons_append, true_or, or_true, false_or, or_false, false_and, and_false, not_true_eq_false, not_false_eq_true, ne_eq, unL, trim_nil, views_pures, LV.pures, LV.pure, freeze, Nat.reduceDiv, Int.reduceEq, Int.reduceLT, Int.reduceLE, Int.natCast_zero, LV.cells, allocL, List.getElem?_cons_zero, List.getElem?_cons_succ, storeL, spliceL, List.take_zero, List.take_succ_cons, List.drop_zero, List.drop_succ_cons, List.drop_nil, List.take_nil, Nat.le_refl, Nat.reduceMul, List.set_cons_zero, List.set_cons_succ, LV.scalar, List.all_cons, List.all_nil, Nat.lt_add_one, Nat.zero_lt_one, Nat.reduceLT, Nat.lt_irrefl, fillL, List.length_append, foldIntL, kind_beq, pures_int, solids_int, plains_int, unders_int, scalars_int, hl2, hbl, htk, hm, hw1, hw2, hr1, hr2, hwh, hlo, works_c]
end Go.Am.Wash

