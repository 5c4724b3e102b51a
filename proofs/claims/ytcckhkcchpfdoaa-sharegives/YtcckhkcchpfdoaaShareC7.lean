/-
  What functions of chapter 07 compute, 7: who envies whom, how fair it is, and why.
-/
import Derived.Test.YtcckhkcchpfdoaaShareC5
set_option linter.unusedVariables false
set_option linter.unusedSimpArgs false
set_option maxRecDepth 10000
namespace Go.Am.Share

def PW (V : List (List Int)) (o : List Int) : List (Nat × Nat) := outer (fun i j => decide (0 < eW V o i j)) V.length 0 V.length
def PX (V : List (List Int)) (o : List Int) : List (Nat × Nat) := outer (fun i j => decide (0 < eX V o i j)) V.length 0 V.length
abbrev RP (l : List (Nat × Nat)) : LV := RLc 2 l.length (pcs l)
theorem pcs_cons (p : Nat × Nat) (r : List (Nat × Nat)) : pcs (p :: r) = .int .i64 (p.1 : Int) :: .int .i64 (p.2 : Int) :: pcs r := rfl
theorem pw_nil {rs : List Row} {o : List Int} (D : DOk rs o) (h : PW (vals rs) o = []) : PX (vals rs) o = [] := by
  unfold PW PX outer at *
  rw [List.flatMap_eq_nil_iff] at h ⊢
  intro i hi
  have := h i hi
  unfold inner at this ⊢
  rw [List.map_eq_nil_iff, List.filter_eq_nil_iff] at this ⊢
  intro j hj
  have := this j hj
  simp only [decide_eq_true_eq] at this ⊢
  have hil : i < rs.length := by simpa [vals_length, List.mem_range'] using hi
  exact fun c => this (eX_eW _ _ _ _ (by rw [vals_at rs i hil]; exact D.ok i hil) c)
theorem P_len {rs : List Row} {o : List Int} (D : DOk rs o) (P : Nat → Nat → Bool) : (outer P rs.length 0 rs.length).length ≤ 100 := by
  have h4 := D.le4
  have hlen : ∀ (i : Nat), (inner P i 0 rs.length).length ≤ 4 := fun i => by
    unfold inner
    rw [List.length_map]
    have := List.length_filter_le (P i) (List.range' 0 rs.length)
    simp at this; omega
  have : ∀ n k, (outer P rs.length k n).length ≤ 4 * n := by
    intro n
    induction n with
    | zero => intro k; simp [outer]
    | succ n ih => intro k; rw [outer_succ, List.length_append]; have := ih (k + 1); have := hlen k; omega
  have := this rs.length 0
  omega

theorem view_PM2 (d : LBlk) (E M : List (Nat × Nat)) (h : E = [] → M = []) : ∃ ids, view 40 (PM2 d E M) (.tup [GVc 1 2 E.length, GVc 2 2 M.length]) = some (.tup [RP E, RP M], ids) := by
  cases E with
  | nil =>
    obtain rfl := h rfl
    exact ⟨[], rfl⟩
  | cons p r =>
    have hE : (p :: r).length ≠ 0 := by simp
    have v1 : ∀ k, view (k + 3) (PM2 d (p :: r) M) (GVc 1 2 (p :: r).length) = some (RP (p :: r), [1]) := fun k => by
      have := view_c k [d] (GMc M.length (pcs M)) 2 (p :: r).length (pcs (p :: r)) (pcs_length _) (pures_pcs _) (by omega)
      rw [if_neg hE] at this
      simpa only [PM2, List.cons_append, List.nil_append, List.append_assoc, List.length_singleton] using this
    have v2 : ∀ k, view (k + 3) (PM2 d (p :: r) M) (GVc 2 2 M.length) = some (RP M, if M.length = 0 then [] else [2]) := fun k => by
      have := view_c k (d :: GMc (p :: r).length (pcs (p :: r))) [] 2 M.length (pcs M) (pcs_length _) (pures_pcs _) (by omega)
      have h2 : (d :: GMc (p :: r).length (pcs (p :: r))).length = 2 := by simp [GMc]
      rw [h2] at this
      simpa only [PM2, List.cons_append, List.append_nil] using this
    have hnp : LV.pures [GVc 1 2 (p :: r).length, GVc 2 2 M.length] = false := by simp [GVc, LV.pures, LV.pure]
    refine ⟨[1] ++ ((if M.length = 0 then [] else [2]) ++ []), ?_⟩
    rw [view.eq_def]
    simp only
    rw [viewL.eq_def]
    simp only [hnp, cond_false]
    rw [viewC.eq_def]
    simp only [v1 34]
    rw [viewC.eq_def]
    simp only [v2 33]
    rw [viewC.eq_def]

theorem pairs_c (nl ex nl' ex' : Bool) (sz sz' : Nat) {rs : List Row} {o : List Int} (D : DOk rs o) (m : LMem) :
    clF LP n_share_division_pairs [.agg [VL nl ex sz rs, IL nl' ex' sz' o]] m = some (.P, .tup [RP (PW (vals rs) o), RP (PX (vals rs) o)], m) := by
  obtain ⟨ids, hv⟩ := view_PM2 ⟨[VL nl ex sz rs, IL nl' ex' sz' o], true⟩ (PW (vals rs) o) (PX (vals rs) o) (pw_nil D)
  refine call_Pv lp_share_division_pairs rfl (by simp [LV.pures, LV.pure]) ?_ hv m
  have h := pairs_outer nl ex nl' ex' sz sz' D rs.length 0 [] [] (by omega) (by have := D.le4; simp; omega) (by have := D.le4; simp; omega) (fun c => absurd rfl c)
  have h2 : exF LP share_division_pairs.L1 [(1, .ptr 0 0 2), (2, LNIL), (3, LNIL), (10, .int .i64 (rs.length : Int)), (11, .int .i64 0)] [⟨[VL nl ex sz rs, IL nl' ex' sz' o], true⟩] =
      some (.exit 0, [(2, GVc 1 2 (PW (vals rs) o).length), (3, GVc 2 2 (PX (vals rs) o).length)], PM2 ⟨[VL nl ex sz rs, IL nl' ex' sz' o], true⟩ (PW (vals rs) o) (PX (vals rs) o)) := by
    have e : PM2 ⟨[VL nl ex sz rs, IL nl' ex' sz' o], true⟩ [] [] = [⟨[VL nl ex sz rs, IL nl' ex' sz' o], true⟩] := rfl
    rw [e] at h
    simp only [PW, PX, vals_length]
    exact h
  simp only [share_division_pairs, share_division_pairs.B, beqT, beqF, exF_seq, exF_region, exF_block, exF_cond, exF_ret, exF_exit, exF_skip, runL, wantL, stepL, evL, LEnv.at, putL, loadFine, loadL, cellsAt, Trk.putNew, Trk.up, Trk.touch, Trk.gives, Trk.calm, Trk.hit, opdsOf, Trk.fresh, LEnv.keep, LEnv.ofFrom, List.map_cons, List.map_nil, nbeq, nble, nblt, ofAV, ofAVs, lenL, bin_add, bin_sub, bin_mul, bin_eql, bin_neq, bin_lss, bin_leq, bin_gtr, bin_geq, natL_nat, natL_zero, natL_one, natL_two, Nat.zero_mul, List.any_cons, List.any_nil, Bool.or_false, Bool.false_or, Bool.true_or, Bool.or_true, Bool.and_true, Bool.true_and, Bool.and_false, Bool.false_and, Bool.not_true, Bool.not_false, Nat.reduceBEq, Nat.reduceEqDiff, decide_true, decide_false, cond_true, cond_false, List.filter_nil, List.filter_cons, Nat.reduceAdd, Nat.reduceLeDiff, reduceCtorEq, List.length_nil, List.length_cons, Nat.mul_one, if_true, if_false, Bool.false_eq_true, eq_self, and_true, true_and, retL, resultsL, resAllL, resOfL, List.append_nil, List.nil_append, List.cons_append, true_or, or_true, false_or, or_false, false_and, and_false, not_true_eq_false, not_false_eq_true, ne_eq, unL, trim_nil, views_pures, LV.pures, LV.pure, freeze, Nat.reduceDiv, Int.reduceEq, Int.reduceLT, Int.reduceLE, Int.natCast_zero, LV.cells, allocL, List.getElem?_cons_zero, List.getElem?_cons_succ, storeL, spliceL, List.take_zero, List.take_succ_cons, List.drop_zero, List.drop_succ_cons, List.drop_nil, List.take_nil, Nat.le_refl, Nat.reduceMul, List.set_cons_zero, List.set_cons_succ, LV.scalar, List.all_cons, List.all_nil, Nat.lt_add_one, Nat.zero_lt_one, Nat.lt_irrefl, fillL, foldIntL, kind_beq, pures_int, solids_int, plains_int, unders_int, scalars_int, h2]
end Go.Am.Share
