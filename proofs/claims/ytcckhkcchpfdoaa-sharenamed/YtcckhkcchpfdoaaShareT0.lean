import Derived.Test.YtcckhkcchpfdoaaShareH1
import Derived.Test.YtcckhkcchpfdoaaShareC12
import Derived.Test.YtcckhkcchpfdoaaShareC19
set_option linter.unusedVariables false
set_option linter.unusedSimpArgs false
set_option maxRecDepth 10000
set_option maxHeartbeats 400000
namespace Go.Am.Share
open Go.Am.G
theorem index_loopG (nl ex : Bool) (sz : Nat) (g : Nat) (cap : List LV) (p : Int → Bool) (l : List Int) (hl : l.length < 1000000) (hg : ∀ x ∈ l,∀ m,clF LP g (.int .i64 x :: cap) m = some (.P,.bool (p x),m)) (n : Nat) : ∀ k,k + n = l.length →
    exF LP slices_IndexFunc_int_int.L0 [(0,IL nl ex sz l),(1,.func g [] cap),(7,.int .i64 (l.length : Int)),(8,.int .i64 (k : Int))] [] = if (l.drop k).any p then some (.ret,[(4,.int .i64 ((k + (l.drop k).findIdx p : Nat) : Int))],[]) else some (.exit 0,[],[]) := by
  induction n with
  | zero =>
    intro k hk
    rw [slices_IndexFunc_int_int.L0_eq]
    simp only [slices_IndexFunc_int_int.B0,exF_seq,exF_region,exF_cond,exF_exit,runL,wantL,stepL,evL,LEnv.at,putL,loadFine,LEnv.keep,List.map_cons,List.map_nil,nbeq,bin_lss,Nat.reduceEqDiff,decide_true,decide_false,cond_true,cond_false,reduceCtorEq,eq_self,show ¬ ((k : Int) < (l.length : Int)) by omega]
    simp [List.drop_eq_nil_of_le (show l.length ≤ k by omega)]
  | succ n ih =>
    intro k hk
    have h2 : k < l.length := by omega
    have ih := ih (k + 1) (by omega)
    have hg := hg l[k] (List.getElem_mem h2)
    rw [slices_IndexFunc_int_int.L0_eq,List.drop_eq_getElem_cons h2,List.any_cons,List.findIdx_cons]
    cases he : p l[k]
    · rw [he] at hg
      simp only [slices_IndexFunc_int_int.B0,exF_seq,exF_region,exF_block,exF_cond,exF_skip,runL,wantL,stepL,evL,evC,LEnv.at,putL,loadFine,loadL,cellsAt,Trk.putNew,Trk.up,Trk.touch,Trk.gives,Trk.calm,opdsOf,Trk.fresh,LEnv.keep,List.map_cons,List.map_nil,nbeq,nble,nblt,bin_add,bin_lss,natL_nat,List.any_cons,List.any_nil,Bool.or_false,Bool.false_or,Bool.or_true,Bool.and_true,Bool.false_and,Bool.not_true,Bool.not_false,Nat.reduceEqDiff,decide_true,decide_false,cond_true,cond_false,List.filter_nil,Nat.reduceAdd,Nat.reduceLeDiff,reduceCtorEq,List.length_nil,Nat.mul_one,eq_self,List.nil_append,List.cons_append,show ((k : Int) < (l.length : Int)) by omega,h2,int_at _ _ _ h2,hg,wrap_succ (show k + 1 < 9223372036854775808 by omega),ih]
      rw [show k + 1 + (l.drop (k + 1)).findIdx p = k + ((l.drop (k + 1)).findIdx p + 1) by omega]
    · rw [he] at hg
      simp only [slices_IndexFunc_int_int.B0,exF_seq,exF_region,exF_block,exF_cond,exF_ret,exF_skip,runL,wantL,stepL,evL,LEnv.at,putL,loadFine,loadL,cellsAt,Trk.putNew,Trk.up,Trk.touch,Trk.gives,Trk.calm,opdsOf,Trk.fresh,LEnv.keep,List.map_cons,List.map_nil,nbeq,nble,nblt,bin_lss,natL_nat,List.any_cons,List.any_nil,Bool.or_false,Bool.true_or,Bool.or_true,Bool.and_true,Bool.false_and,Bool.not_true,Bool.not_false,Nat.reduceEqDiff,decide_true,decide_false,cond_true,cond_false,List.filter_nil,Nat.reduceAdd,Nat.reduceLeDiff,reduceCtorEq,List.length_nil,Nat.mul_one,if_true,eq_self,List.nil_append,List.cons_append,show ((k : Int) < (l.length : Int)) by omega,h2,int_at _ _ _ h2,hg,Nat.add_zero]
theorem containsG_c (nl ex : Bool) (sz : Nat) (g : Nat) (cap : List LV) (hp : LV.pures cap = true) (p : Int → Bool) (l : List Int) (hl : l.length < 1000000) (hg : ∀ x ∈ l,∀ m,clF LP g (.int .i64 x :: cap) m = some (.P,.bool (p x),m)) (m : LMem) :
    clF LP n_slices_ContainsFunc_int_int [IL nl ex sz l,.func g [] cap] m = some (.P,.bool (l.any p),m) := by
  have hI : ∀ m,clF LP n_slices_IndexFunc_int_int [IL nl ex sz l,.func g [] cap] m = some (.P,.int .i64 (if l.any p then ((l.findIdx p : Nat) : Int) else -1),m) := fun m => by
    refine call_P lp_slices_IndexFunc_int_int rfl (by simp [LV.pures,LV.pure,hp]) (m1 := []) ?_ rfl m
    have h := index_loopG nl ex sz g cap p l hl hg l.length 0 (by omega)
    simp only [Int.natCast_zero,List.drop_zero,Nat.zero_add] at h
    cases ha : l.any p <;> rw [ha] at h <;> simp only [slices_IndexFunc_int_int,slices_IndexFunc_int_int.B,exF_seq,exF_region,exF_block,exF_ret,runL,wantL,stepL,evL,evC,LEnv.at,putL,loadFine,LEnv.keep,LEnv.ofFrom,List.map_cons,List.map_nil,nbeq,lenL,Nat.reduceEqDiff,decide_true,decide_false,cond_true,cond_false,Nat.reduceAdd,reduceCtorEq,if_true,if_false,Bool.false_eq_true,eq_self,retL,resultsL,resAllL,resOfL,h]
  refine call_P lp_slices_ContainsFunc_int_int rfl (by simp [LV.pures,LV.pure,hp]) (m1 := []) ?_ rfl m
  cases ha : l.any p
  · rw [ha] at hI
    simp only [slices_ContainsFunc_int_int,slices_ContainsFunc_int_int.B,exF_seq,exF_region,exF_ret,runL,wantL,stepL,evL,evC,LEnv.at,putL,loadFine,LEnv.keep,LEnv.ofFrom,List.map_cons,List.map_nil,nbeq,ofAVs,bin_geq,Nat.reduceEqDiff,decide_true,decide_false,cond_true,cond_false,Nat.reduceAdd,reduceCtorEq,if_false,Bool.false_eq_true,eq_self,retL,resultsL,resAllL,resOfL,List.append_nil,List.nil_append,Int.reduceLE,hI]
  · rw [ha] at hI
    simp only [slices_ContainsFunc_int_int,slices_ContainsFunc_int_int.B,exF_seq,exF_region,exF_ret,runL,wantL,stepL,evL,evC,LEnv.at,putL,loadFine,LEnv.keep,LEnv.ofFrom,List.map_cons,List.map_nil,nbeq,ofAVs,bin_geq,Nat.reduceEqDiff,decide_true,decide_false,cond_true,cond_false,Nat.reduceAdd,reduceCtorEq,if_true,eq_self,retL,resultsL,resAllL,resOfL,List.append_nil,List.nil_append,hI,show ((l.findIdx p : Nat) : Int) ≥ 0 by omega]
theorem proper1_c (nl ex : Bool) (sz : Nat) (rs : List Row) (hl : rs.length < 1000000) (x : Int) (m : LMem) : clF LP n_law07_proper_1 [.int .i64 x,.elt [VL nl ex sz rs] 0] m = some (.P,.bool (decide (x < 0) || decide ((rs.length : Int) ≤ x)),m) := by
  refine call_P lp_law07_proper_1 rfl (by simp [LV.pures,LV.pure]) (m1 := []) ?_ rfl m
  have l0 : lenL (VL nl ex sz rs) = some rs.length := rfl
  generalize VL nl ex sz rs = VV at *
  by_cases h : x < 0
  · simp only [law07_proper_1,law07_proper_1.B,beqF,exF_seq,exF_region,exF_ret,runL,wantL,stepL,evL,evC,LEnv.at,putL,loadFine,LEnv.keep,LEnv.ofFrom,List.map_cons,List.map_nil,nbeq,bin_lss,Bool.true_or,Bool.not_true,Nat.reduceEqDiff,decide_true,decide_false,cond_true,cond_false,Nat.reduceAdd,reduceCtorEq,eq_self,retL,resultsL,resAllL,resOfL,h]
  · by_cases h2 : (rs.length : Int) ≤ x
    · simp only [law07_proper_1,law07_proper_1.B,beqF,exF_seq,exF_region,exF_ret,runL,wantL,stepL,evL,evC,LEnv.at,putL,loadFine,loadL,cellsAt,Trk.putNew,Trk.up,Trk.touch,Trk.gives,Trk.calm,opdsOf,Trk.fresh,LEnv.keep,LEnv.ofFrom,List.map_cons,List.map_nil,nbeq,nble,bin_lss,bin_geq,List.any_cons,List.any_nil,Bool.or_false,Bool.or_true,Bool.and_true,Bool.false_and,Bool.not_true,Bool.not_false,Nat.reduceEqDiff,decide_true,decide_false,cond_true,cond_false,List.filter_nil,Nat.reduceAdd,Nat.reduceLeDiff,reduceCtorEq,List.length_nil,List.length_cons,eq_self,retL,resultsL,resAllL,resOfL,List.getElem?_cons_zero,List.take_succ_cons,List.drop_zero,List.take_nil,Nat.le_refl,l0,h,h2]
    · simp only [law07_proper_1,law07_proper_1.B,beqF,exF_seq,exF_region,exF_ret,runL,wantL,stepL,evL,evC,LEnv.at,putL,loadFine,loadL,cellsAt,Trk.putNew,Trk.up,Trk.touch,Trk.gives,Trk.calm,opdsOf,Trk.fresh,LEnv.keep,LEnv.ofFrom,List.map_cons,List.map_nil,nbeq,nble,bin_lss,bin_geq,List.any_cons,List.any_nil,Bool.or_false,Bool.or_true,Bool.and_true,Bool.false_and,Bool.not_true,Bool.not_false,Nat.reduceEqDiff,decide_true,decide_false,cond_true,cond_false,List.filter_nil,Nat.reduceAdd,Nat.reduceLeDiff,reduceCtorEq,List.length_nil,List.length_cons,eq_self,retL,resultsL,resAllL,resOfL,List.getElem?_cons_zero,List.take_succ_cons,List.drop_zero,List.take_nil,Nat.le_refl,l0,h,h2]
theorem proper_c (nl ex nl' ex' : Bool) (sz sz' : Nat) {rs : List Row} {o : List Int} (D : LOk rs o) (hr : ∀ x ∈ o,0 ≤ x ∧ x < (rs.length : Int)) (m : LMem) : clF LP n_law07_proper [VL nl ex sz rs,IL nl' ex' sz' o] m = some (.P,.bool true,m) := by
  have hpos := D.pos
  have hl0 := D.len 0 hpos
  have hC := containsG_c nl' ex' sz' n_law07_proper_1 [.elt [VL nl ex sz rs] 0] (by simp [LV.pures,LV.pure]) (fun x => decide (x < 0) || decide ((rs.length : Int) ≤ x)) o (by have := D.le6; omega) (fun x hx m => proper1_c nl ex sz rs (by have := D.le4; omega) x m) []
  have ha : (o.any fun x => decide (x < 0) || decide ((rs.length : Int) ≤ x)) = false := by
    rw [List.any_eq_false]
    intro x hx
    have := hr x hx
    simp; omega
  rw [ha] at hC
  have hv : clF LP n_slices_ContainsFunc_int_int [IL nl' ex' sz' o,.func n_law07_proper_1 [] [.ptr 0 0 1]] [⟨[VL nl ex sz rs],true⟩] = some (.P,.bool false,[⟨[VL nl ex sz rs],true⟩]) := by
    refine call_view lp_slices_ContainsFunc_int_int rfl (ids := [0]) ?_ ?_ hC rfl
    · exact views_snd8 84 _ _ _ _ _ (fun k => view_fun1 k _ _ 0 1 _ true rfl (by simp [LV.pures]) rfl) (by simp [LV.pure]) (by simp [LV.pures,LV.pure])
    · simp [LV.pures,LV.pure]
  refine call_P lp_law07_proper rfl (by simp [LV.pures,LV.pure]) (m1 := [⟨[VL nl ex sz rs],true⟩]) ?_ rfl m
  have hlq : ((o.length : Int) = (rs[0].l.length : Int)) := by omega
  have h0 := row_at rs 0 hpos
  simp only [law07_proper,law07_proper.B,beqT,exF_seq,exF_region,exF_ret,runL,wantL,stepL,evL,evC,LEnv.at,putL,loadFine,loadL,cellsAt,Trk.putNew,Trk.up,Trk.touch,Trk.gives,Trk.calm,Trk.hit,opdsOf,Trk.fresh,LEnv.keep,LEnv.ofFrom,List.map_cons,List.map_nil,nbeq,nble,nblt,ofAVs,lenL,bin_eql,natL_zero,List.any_cons,List.any_nil,Bool.or_false,Bool.or_true,Bool.and_true,Bool.false_and,Bool.not_true,Bool.not_false,Nat.reduceEqDiff,decide_true,decide_false,cond_true,cond_false,List.filter_nil,Nat.reduceAdd,Nat.reduceLeDiff,reduceCtorEq,List.length_nil,List.length_cons,Nat.mul_one,eq_self,retL,resultsL,resAllL,resOfL,List.append_nil,List.nil_append,unL,LV.cells,allocL,List.getElem?_cons_zero,List.take_succ_cons,List.drop_zero,List.take_nil,Nat.le_refl,hpos,h0,hlq,hv]
def cz (w : Int) : Int := if 0 < w then 1 else 0
def cnt : List Int → Int
  | [] => 0
  | w :: r => cz w + cnt r
end Go.Am.Share
set_option linter.unusedVariables false
set_option linter.unusedSimpArgs false
set_option maxRecDepth 10000
set_option maxHeartbeats 400000
namespace Go.Am.Share
open Go.Am.G
section
variable (V : List (List Int)) (p : Nat) (hp : p < V.length) {t : Int} (ht : 0 < t)
include hp ht
end
section
variable (V : List (List Int)) (p : Nat) (hp : p < V.length) {t : Int} (ht : 0 < t) (hV : ∀ i,∀ x ∈ V.getD i [],0 ≤ x)
include hp ht hV
end
end Go.Am.Share
set_option linter.unusedVariables false
set_option linter.unusedSimpArgs false
set_option maxRecDepth 10000
set_option maxHeartbeats 400000
namespace Go.Am.Share
open Go.Am.G
theorem take_set1 {α : Type} (l : List α) (i : Nat) (x : α) (h : i < l.length) : l.take i ++ [x] ++ l.drop (i + 1) = l.set i x := by
  rw [List.set_eq_take_append_cons_drop,if_pos h,List.append_assoc]; rfl
def celM (R : List (List Int)) (β : Nat → Nat) (r i : Nat) : List LV := (List.range r).map fun j => if j < i then GV (β j) (R.getD j []) else .lst true true 0 0 []
structure MoreAt (m : LMem) (q : Nat) (R : List (List Int)) (r i : Nat) (β : Nat → Nat) : Prop where
  cells : m[q]? = some ⟨celM R β r i,true⟩
  row : ∀ j,j < i → R.getD j [] ≠ [] → q < β j ∧ m[β j]? = some ⟨ints (R.getD j []),true⟩
  inj : ∀ j j',j < i → j' < i → R.getD j [] ≠ [] → R.getD j' [] ≠ [] → β j = β j' → j = j'
theorem get_lt' {m : LMem} {i : Nat} {b : LBlk} (h : m[i]? = some b) : i < m.length := (List.getElem?_eq_some_iff.1 h).1
end Go.Am.Share
