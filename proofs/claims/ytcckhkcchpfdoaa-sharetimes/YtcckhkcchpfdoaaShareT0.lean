import Derived.Test.YtcckhkcchpfdoaaShareH1
import Derived.Test.YtcckhkcchpfdoaaShareC12
import Derived.Test.YtcckhkcchpfdoaaShareC19
set_option linter.unusedVariables false
set_option linter.unusedSimpArgs false
set_option maxRecDepth 10000
set_option maxHeartbeats 400000
namespace Go.Am.Share
open Go.Am.G
theorem index_loopG (nl ex : Bool) (sz : Nat) (g : Nat) (cap : List LV) (p : Int → Bool) (l : List Int) (hl : l.length < 1000000) (hg : ∀ x ∈ l,∀ m,clF LP g (.int .i64 x :: cap) m = some (.P,.bool (p x),m)) (n : Nat) : ∀ k,k + n = l.length →
    exF LP slices_IndexFunc_int_int.L0 [(0,IL nl ex sz l),(1,.func g [] cap),(7,.int .i64 (l.length : Int)),(8,.int .i64 (k : Int))] [] = if (l.drop k).any p then some (.ret,[(4,.int .i64 ((k + (l.drop k).findIdx p : Nat) : Int))],[]) else some (.exit 0,[],[]) := by
  induction n with
  | zero =>
    intro k hk
    rw [slices_IndexFunc_int_int.L0_eq]
    simp only [slices_IndexFunc_int_int.B0,exF_seq,exF_region,exF_cond,exF_exit,runL,wantL,stepL,evL,LEnv.at,putL,loadFine,LEnv.keep,List.map_cons,List.map_nil,nbeq,bin_lss,Nat.reduceEqDiff,decide_true,decide_false,cond_true,cond_false,reduceCtorEq,eq_self,show ¬ ((k : Int) < (l.length : Int)) by omega]
    simp [List.drop_eq_nil_of_le (show l.length ≤ k by omega)]
  | succ n ih =>
    intro k hk
    have h2 : k < l.length := by omega
    have ih := ih (k + 1) (by omega)
    have hg := hg l[k] (List.getElem_mem h2)
    rw [slices_IndexFunc_int_int.L0_eq,List.drop_eq_getElem_cons h2,List.any_cons,List.findIdx_cons]
    cases he : p l[k]
    · rw [he] at hg
      simp only [slices_IndexFunc_int_int.B0,exF_seq,exF_region,exF_block,exF_cond,exF_skip,runL,wantL,stepL,evL,evC,LEnv.at,putL,loadFine,loadL,cellsAt,Trk.putNew,Trk.up,Trk.touch,Trk.gives,Trk.calm,opdsOf,Trk.fresh,LEnv.keep,List.map_cons,List.map_nil,nbeq,nble,nblt,bin_add,bin_lss,natL_nat,List.any_cons,List.any_nil,Bool.or_false,Bool.false_or,Bool.or_true,Bool.and_true,Bool.false_and,Bool.not_true,Bool.not_false,Nat.reduceEqDiff,decide_true,decide_false,cond_true,cond_false,List.filter_nil,Nat.reduceAdd,Nat.reduceLeDiff,reduceCtorEq,List.length_nil,Nat.mul_one,eq_self,List.nil_append,List.cons_append,show ((k : Int) < (l.length : Int)) by omega,h2,int_at _ _ _ h2,hg,wrap_succ (show k + 1 < 9223372036854775808 by omega),ih]
      rw [show k + 1 + (l.drop (k + 1)).findIdx p = k + ((l.drop (k + 1)).findIdx p + 1) by omega]
    · rw [he] at hg
      simp only [slices_IndexFunc_int_int.B0,exF_seq,exF_region,exF_block,exF_cond,exF_ret,exF_skip,runL,wantL,stepL,evL,LEnv.at,putL,loadFine,loadL,cellsAt,Trk.putNew,Trk.up,Trk.touch,Trk.gives,Trk.calm,opdsOf,Trk.fresh,LEnv.keep,List.map_cons,List.map_nil,nbeq,nble,nblt,bin_lss,natL_nat,List.any_cons,List.any_nil,Bool.or_false,Bool.true_or,Bool.or_true,Bool.and_true,Bool.false_and,Bool.not_true,Bool.not_false,Nat.reduceEqDiff,decide_true,decide_false,cond_true,cond_false,List.filter_nil,Nat.reduceAdd,Nat.reduceLeDiff,reduceCtorEq,List.length_nil,Nat.mul_one,if_true,eq_self,List.nil_append,List.cons_append,show ((k : Int) < (l.length : Int)) by omega,h2,int_at _ _ _ h2,hg,Nat.add_zero]
theorem containsG_c (nl ex : Bool) (sz : Nat) (g : Nat) (cap : List LV) (hp : LV.pures cap = true) (p : Int → Bool) (l : List Int) (hl : l.length < 1000000) (hg : ∀ x ∈ l,∀ m,clF LP g (.int .i64 x :: cap) m = some (.P,.bool (p x),m)) (m : LMem) :
    clF LP n_slices_ContainsFunc_int_int [IL nl ex sz l,.func g [] cap] m = some (.P,.bool (l.any p),m) := by
  have hI : ∀ m,clF LP n_slices_IndexFunc_int_int [IL nl ex sz l,.func g [] cap] m = some (.P,.int .i64 (if l.any p then ((l.findIdx p : Nat) : Int) else -1),m) := fun m => by
    refine call_P lp_slices_IndexFunc_int_int rfl (by simp [LV.pures,LV.pure,hp]) (m1 := []) ?_ rfl m
    have h := index_loopG nl ex sz g cap p l hl hg l.length 0 (by omega)
    simp only [Int.natCast_zero,List.drop_zero,Nat.zero_add] at h
    cases ha : l.any p <;> rw [ha] at h <;> simp only [slices_IndexFunc_int_int,slices_IndexFunc_int_int.B,exF_seq,exF_region,exF_block,exF_ret,runL,wantL,stepL,evL,evC,LEnv.at,putL,loadFine,LEnv.keep,LEnv.ofFrom,List.map_cons,List.map_nil,nbeq,lenL,Nat.reduceEqDiff,decide_true,decide_false,cond_true,cond_false,Nat.reduceAdd,reduceCtorEq,if_true,if_false,Bool.false_eq_true,eq_self,retL,resultsL,resAllL,resOfL,h]
  refine call_P lp_slices_ContainsFunc_int_int rfl (by simp [LV.pures,LV.pure,hp]) (m1 := []) ?_ rfl m
  cases ha : l.any p
  · rw [ha] at hI
    simp only [slices_ContainsFunc_int_int,slices_ContainsFunc_int_int.B,exF_seq,exF_region,exF_ret,runL,wantL,stepL,evL,evC,LEnv.at,putL,loadFine,LEnv.keep,LEnv.ofFrom,List.map_cons,List.map_nil,nbeq,ofAVs,bin_geq,Nat.reduceEqDiff,decide_true,decide_false,cond_true,cond_false,Nat.reduceAdd,reduceCtorEq,if_false,Bool.false_eq_true,eq_self,retL,resultsL,resAllL,resOfL,List.append_nil,List.nil_append,Int.reduceLE,hI]
  · rw [ha] at hI
    simp only [slices_ContainsFunc_int_int,slices_ContainsFunc_int_int.B,exF_seq,exF_region,exF_ret,runL,wantL,stepL,evL,evC,LEnv.at,putL,loadFine,LEnv.keep,LEnv.ofFrom,List.map_cons,List.map_nil,nbeq,ofAVs,bin_geq,Nat.reduceEqDiff,decide_true,decide_false,cond_true,cond_false,Nat.reduceAdd,reduceCtorEq,if_true,eq_self,retL,resultsL,resAllL,resOfL,List.append_nil,List.nil_append,hI,show ((l.findIdx p : Nat) : Int) ≥ 0 by omega]
theorem proper1_c (nl ex : Bool) (sz : Nat) (rs : List Row) (hl : rs.length < 1000000) (x : Int) (m : LMem) : clF LP n_law07_proper_1 [.int .i64 x,.elt [VL nl ex sz rs] 0] m = some (.P,.bool (decide (x < 0) || decide ((rs.length : Int) ≤ x)),m) := by
  refine call_P lp_law07_proper_1 rfl (by simp [LV.pures,LV.pure]) (m1 := []) ?_ rfl m
  have l0 : lenL (VL nl ex sz rs) = some rs.length := rfl
  generalize VL nl ex sz rs = VV at *
  by_cases h : x < 0
  · simp only [law07_proper_1,law07_proper_1.B,beqF,exF_seq,exF_region,exF_ret,runL,wantL,stepL,evL,evC,LEnv.at,putL,loadFine,LEnv.keep,LEnv.ofFrom,List.map_cons,List.map_nil,nbeq,bin_lss,Bool.true_or,Bool.not_true,Nat.reduceEqDiff,decide_true,decide_false,cond_true,cond_false,Nat.reduceAdd,reduceCtorEq,eq_self,retL,resultsL,resAllL,resOfL,h]
  · by_cases h2 : (rs.length : Int) ≤ x
    · simp only [law07_proper_1,law07_proper_1.B,beqF,exF_seq,exF_region,exF_ret,runL,wantL,stepL,evL,evC,LEnv.at,putL,loadFine,loadL,cellsAt,Trk.putNew,Trk.up,Trk.touch,Trk.gives,Trk.calm,opdsOf,Trk.fresh,LEnv.keep,LEnv.ofFrom,List.map_cons,List.map_nil,nbeq,nble,bin_lss,bin_geq,List.any_cons,List.any_nil,Bool.or_false,Bool.or_true,Bool.and_true,Bool.false_and,Bool.not_true,Bool.not_false,Nat.reduceEqDiff,decide_true,decide_false,cond_true,cond_false,List.filter_nil,Nat.reduceAdd,Nat.reduceLeDiff,reduceCtorEq,List.length_nil,List.length_cons,eq_self,retL,resultsL,resAllL,resOfL,List.getElem?_cons_zero,List.take_succ_cons,List.drop_zero,List.take_nil,Nat.le_refl,l0,h,h2]
    · simp only [law07_proper_1,law07_proper_1.B,beqF,exF_seq,exF_region,exF_ret,runL,wantL,stepL,evL,evC,LEnv.at,putL,loadFine,loadL,cellsAt,Trk.putNew,Trk.up,Trk.touch,Trk.gives,Trk.calm,opdsOf,Trk.fresh,LEnv.keep,LEnv.ofFrom,List.map_cons,List.map_nil,nbeq,nble,bin_lss,bin_geq,List.any_cons,List.any_nil,Bool.or_false,Bool.or_true,Bool.and_true,Bool.false_and,Bool.not_true,Bool.not_false,Nat.reduceEqDiff,decide_true,decide_false,cond_true,cond_false,List.filter_nil,Nat.reduceAdd,Nat.reduceLeDiff,reduceCtorEq,List.length_nil,List.length_cons,eq_self,retL,resultsL,resAllL,resOfL,List.getElem?_cons_zero,List.take_succ_cons,List.drop_zero,List.take_nil,Nat.le_refl,l0,h,h2]
theorem proper_c (nl ex nl' ex' : Bool) (sz sz' : Nat) {rs : List Row} {o : List Int} (D : LOk rs o) (hr : ∀ x ∈ o,0 ≤ x ∧ x < (rs.length : Int)) (m : LMem) : clF LP n_law07_proper [VL nl ex sz rs,IL nl' ex' sz' o] m = some (.P,.bool true,m) := by
  have hpos := D.pos
  have hl0 := D.len 0 hpos
  have hC := containsG_c nl' ex' sz' n_law07_proper_1 [.elt [VL nl ex sz rs] 0] (by simp [LV.pures,LV.pure]) (fun x => decide (x < 0) || decide ((rs.length : Int) ≤ x)) o (by have := D.le6; omega) (fun x hx m => proper1_c nl ex sz rs (by have := D.le4; omega) x m) []
  have ha : (o.any fun x => decide (x < 0) || decide ((rs.length : Int) ≤ x)) = false := by
    rw [List.any_eq_false]
    intro x hx
    have := hr x hx
    simp; omega
  rw [ha] at hC
  have hv : clF LP n_slices_ContainsFunc_int_int [IL nl' ex' sz' o,.func n_law07_proper_1 [] [.ptr 0 0 1]] [⟨[VL nl ex sz rs],true⟩] = some (.P,.bool false,[⟨[VL nl ex sz rs],true⟩]) := by
    refine call_view lp_slices_ContainsFunc_int_int rfl (ids := [0]) ?_ ?_ hC rfl
    · exact views_snd8 84 _ _ _ _ _ (fun k => view_fun1 k _ _ 0 1 _ true rfl (by simp [LV.pures]) rfl) (by simp [LV.pure]) (by simp [LV.pures,LV.pure])
    · simp [LV.pures,LV.pure]
  refine call_P lp_law07_proper rfl (by simp [LV.pures,LV.pure]) (m1 := [⟨[VL nl ex sz rs],true⟩]) ?_ rfl m
  have hlq : ((o.length : Int) = (rs[0].l.length : Int)) := by omega
  have h0 := row_at rs 0 hpos
  simp only [law07_proper,law07_proper.B,beqT,exF_seq,exF_region,exF_ret,runL,wantL,stepL,evL,evC,LEnv.at,putL,loadFine,loadL,cellsAt,Trk.putNew,Trk.up,Trk.touch,Trk.gives,Trk.calm,Trk.hit,opdsOf,Trk.fresh,LEnv.keep,LEnv.ofFrom,List.map_cons,List.map_nil,nbeq,nble,nblt,ofAVs,lenL,bin_eql,natL_zero,List.any_cons,List.any_nil,Bool.or_false,Bool.or_true,Bool.and_true,Bool.false_and,Bool.not_true,Bool.not_false,Nat.reduceEqDiff,decide_true,decide_false,cond_true,cond_false,List.filter_nil,Nat.reduceAdd,Nat.reduceLeDiff,reduceCtorEq,List.length_nil,List.length_cons,Nat.mul_one,eq_self,retL,resultsL,resAllL,resOfL,List.append_nil,List.nil_append,unL,LV.cells,allocL,List.getElem?_cons_zero,List.take_succ_cons,List.drop_zero,List.take_nil,Nat.le_refl,hpos,h0,hlq,hv]
theorem ownL_length' (V : List (List Int)) (o : List Int) (k n : Nat) : (ownL V o k n).length = n := by simp [ownL]
def cz (w : Int) : Int := if 0 < w then 1 else 0
def pz (w : Int) : Int := if 0 < w then w else 1
def cnt : List Int → Int
  | [] => 0
  | w :: r => cz w + cnt r
def prd : List Int → Int
  | [] => 1
  | w :: r => pz w * prd r
theorem prodF_eq : ∀ (l : List Int) (a : Int × Int),0 ≤ a.1 → a.1 + l.length ≤ 1000 → (∀ w ∈ l,w ≤ 1000) → 0 ≤ a.2 → a.2 * 1000 ^ l.length ≤ 1000000000000 → prodF l a = (a.1 + cnt l,a.2 * prd l)
  | [],a,_,_,_,_,_ => by simp [prodF,cnt,prd]
  | w :: r,a,h1,h2,h3,h4,h5 => by
    simp only [List.length_cons] at h2 h5
    have w3 := h3 w (by simp)
    have hp : (1 : Int) ≤ 1000 ^ r.length := by
      have : (0 : Int) < 1000 ^ r.length := Int.pow_pos (by omega)
      omega
    rw [prodF]
    by_cases c : 0 < w
    · rw [if_pos c]
      have e1 : IntKind.i64.wrap (a.1 + 1) = a.1 + 1 := wrap_in (by omega)
      have m1 : a.2 * w ≤ a.2 * 1000 := Int.mul_le_mul_of_nonneg_left w3 h4
      have m2 : 0 ≤ a.2 * w := Int.mul_nonneg h4 (by omega)
      have m3 : a.2 * w * 1000 ^ r.length ≤ a.2 * 1000 ^ (r.length + 1) := by
        rw [Int.pow_succ,Int.mul_comm (1000 ^ r.length) 1000,← Int.mul_assoc]
        exact Int.mul_le_mul_of_nonneg_right m1 (by omega)
      have m4 : a.2 * w ≤ a.2 * w * 1000 ^ r.length := by
        have := Int.mul_le_mul_of_nonneg_left hp m2
        omega
      have e2 : IntKind.i64.wrap (a.2 * w) = a.2 * w := wrap_in (by omega)
      rw [e1,e2,prodF_eq r _ (by dsimp only; omega) (by dsimp only; omega) (fun x hx => h3 x (by simp [hx])) m2 (by dsimp only; omega)]
      simp only [cnt,prd,cz,pz,if_pos c,Int.mul_assoc,Int.add_assoc]
    · rw [if_neg c,prodF_eq r a h1 (by omega) (fun x hx => h3 x (by simp [hx])) h4 (by
        refine Int.le_trans ?_ h5
        rw [Int.pow_succ,← Int.mul_assoc]
        have : 0 ≤ a.2 * 1000 ^ r.length := Int.mul_nonneg h4 (by omega)
        omega)]
      simp only [cnt,prd,cz,pz,if_neg c,Int.one_mul,Int.zero_add]
theorem prodO_eq {V : List (List Int)} (o : List Int) (h4 : V.length ≤ 4) (hb : ∀ w ∈ ownL V o 0 V.length,w ≤ 1000) : prodO V o = (cnt (ownL V o 0 V.length),prd (ownL V o 0 V.length)) := by
  have hl := ownL_length' V o 0 V.length
  unfold prodO
  rw [prodF_eq _ _ (by simp) (by simp only [hl]; omega) hb (by simp) (by
    rw [hl,Int.one_mul]
    have h : V.length = 0 ∨ V.length = 1 ∨ V.length = 2 ∨ V.length = 3 ∨ V.length = 4 := by omega
    rcases h with h | h | h | h | h <;> rw [h] <;> decide)]
  simp
end Go.Am.Share
set_option linter.unusedVariables false
set_option linter.unusedSimpArgs false
set_option maxRecDepth 10000
set_option maxHeartbeats 400000
namespace Go.Am.Share
open Go.Am.G
def mulR (t : Int) (r : List Int) : List Int := r.map (· * t)
def mulV (V : List (List Int)) (p : Nat) (t : Int) : List (List Int) := V.set p (mulR t (V.getD p []))
theorem mulV_len (V : List (List Int)) (p : Nat) (t : Int) : (mulV V p t).length = V.length := by simp [mulV]
theorem mulR_len (t : Int) (r : List Int) : (mulR t r).length = r.length := by simp [mulR]
theorem mulV_at (V : List (List Int)) (p : Nat) (hp : p < V.length) (t : Int) (i : Nat) : (mulV V p t).getD i [] = if i = p then mulR t (V.getD p []) else V.getD i [] := by
  rw [List.getD_eq_getElem?_getD,mulV,List.getElem?_set]
  by_cases c : p = i
  · subst c
    rw [if_pos rfl,if_pos hp,if_pos rfl,Option.getD_some]
  · rw [if_neg c,if_neg (fun e => c e.symm),List.getD_eq_getElem?_getD]
theorem ws_mul (j : Int) (t : Int) : ∀ (r o : List Int) (w : Int),ws j (mulR t r) o (w * t) = ws j r o w * t
  | [],o,w => by simp [mulR,ws]
  | x :: r,[],w => by simp [mulR,ws]
  | x :: r,y :: o,w => by
    have ih := ws_mul j t r o
    simp only [mulR,List.map_cons,ws] at ih ⊢
    by_cases c : y = j
    · rw [if_pos c,if_pos c,← Int.add_mul]; exact ih (w + x)
    · rw [if_neg c,if_neg c]; exact ih w
theorem wg_mul (j : Int) (t : Int) (ht : 0 < t) : ∀ (r o : List Int) (a : Int × Int),wg j (mulR t r) o (a.1 * t,a.2 * t) = ((wg j r o a).1 * t,(wg j r o a).2 * t)
  | [],o,a => by simp [mulR,wg]
  | x :: r,[],a => by simp [mulR,wg]
  | x :: r,y :: o,a => by
    have ih := wg_mul j t ht r o
    simp only [mulR,List.map_cons,wg] at ih ⊢
    by_cases c : y = j
    · rw [if_pos c,if_pos c]
      have := ih (a.1 + x,if x > a.2 then x else a.2)
      rw [← this]
      congr 1
      simp only [Int.add_mul,Prod.mk.injEq,true_and]
      by_cases c2 : x > a.2
      · rw [if_pos c2,if_pos (Int.mul_lt_mul_of_pos_right c2 ht)]
      · rw [if_neg c2,if_neg]
        intro h
        exact c2 (Int.lt_of_mul_lt_mul_right h (Int.le_of_lt ht))
    · rw [if_neg c,if_neg c]; exact ih a
theorem eW_mul (V : List (List Int)) (p : Nat) (hp : p < V.length) (t : Int) (o : List Int) (i j : Nat) : eW (mulV V p t) o i j = if i = p then eW V o i j * t else eW V o i j := by
  unfold eW
  rw [mulV_at V p hp]
  by_cases c : i = p
  · subst c
    rw [if_pos rfl,if_pos rfl,Int.sub_mul,← ws_mul,← ws_mul,Int.zero_mul]
  · rw [if_neg c,if_neg c]
theorem eX_mul (V : List (List Int)) (p : Nat) (hp : p < V.length) (t : Int) (ht : 0 < t) (o : List Int) (i j : Nat) : eX (mulV V p t) o i j = if i = p then eX V o i j * t else eX V o i j := by
  unfold eX
  rw [mulV_at V p hp]
  by_cases c : i = p
  · subst c
    have h := wg_mul (j : Int) t ht (V.getD i []) o (0,0)
    simp only [Int.zero_mul] at h
    rw [if_pos rfl,if_pos rfl,h,Int.sub_mul,Int.sub_mul,← ws_mul,← ws_mul,Int.zero_mul]
  · rw [if_neg c,if_neg c]
theorem pos_mul {x t : Int} (ht : 0 < t) : 0 < x * t ↔ 0 < x := by
  constructor
  · intro h
    have : 0 * t < x * t := by rw [Int.zero_mul]; exact h
    exact Int.lt_of_mul_lt_mul_right this (Int.le_of_lt ht)
  · intro h; exact Int.mul_pos h ht
theorem eW_pos (V : List (List Int)) (p : Nat) (hp : p < V.length) {t : Int} (ht : 0 < t) (o : List Int) (i j : Nat) : decide (0 < eW (mulV V p t) o i j) = decide (0 < eW V o i j) := by
  rw [eW_mul V p hp]
  split
  · exact decide_eq_decide.2 (pos_mul ht)
  · rfl
theorem eX_pos (V : List (List Int)) (p : Nat) (hp : p < V.length) {t : Int} (ht : 0 < t) (o : List Int) (i j : Nat) : decide (0 < eX (mulV V p t) o i j) = decide (0 < eX V o i j) := by
  rw [eX_mul V p hp t ht]
  split
  · exact decide_eq_decide.2 (pos_mul ht)
  · rfl
section
variable (V : List (List Int)) (p : Nat) (hp : p < V.length) {t : Int} (ht : 0 < t)
include hp ht
theorem PW_mul (o : List Int) : PW (mulV V p t) o = PW V o := by
  unfold PW
  rw [mulV_len]
  congr 1
  funext i j
  exact eW_pos V p hp ht o i j
theorem PX_mul (o : List Int) : PX (mulV V p t) o = PX V o := by
  unfold PX
  rw [mulV_len]
  congr 1
  funext i j
  exact eX_pos V p hp ht o i j
theorem enI_mul (o : List Int) (j : Nat) : enI (mulV V p t) o j = enI V o j := by
  unfold enI
  rw [mulV_len]
  congr 1
  funext i
  exact eW_pos V p hp ht o i j
theorem calmI_mul (o : List Int) : calmI (mulV V p t) o = calmI V o := by
  unfold calmI
  rw [mulV_len]
  congr 1
  funext j
  rw [enI_mul V p hp ht]
theorem fairI_mul (o : List Int) : fairI (mulV V p t) o = fairI V o := by
  unfold fairI
  rw [mulV_len]
  have : (fun j => decide (enI (mulV V p t) o j ≠ -1)) = fun j => decide (enI V o j ≠ -1) := by
    funext j
    rw [enI_mul V p hp ht]
  rw [this]
theorem turnI_mul (o : List Int) : turnI (mulV V p t) o = turnI V o := by
  unfold turnI ringI
  have : (fun x : Int => enI (mulV V p t) o x.toNat) = fun x : Int => enI V o x.toNat := by
    funext x
    rw [enI_mul V p hp ht]
  rw [mulV_len,this]
theorem settle_mul : ∀ (n : Nat) (o : List Int),settle (mulV V p t) n o = settle V n o
  | 0,o => rfl
  | n + 1,o => by
    rw [settle,settle,calmI_mul V p hp ht,turnI_mul V p hp ht,settle_mul n]
theorem ringsI_mul : ∀ (n k : Nat) (o : List Int),ringsI (mulV V p t) n k o = ringsI V n k o
  | 0,k,o => rfl
  | n + 1,k,o => by
    rw [ringsI,ringsI,settle_mul V p hp ht,calmI_mul V p hp ht,ringsI_mul n]
end
theorem pk_mul {t : Int} (ht : 0 < t) : ∀ (r o : List Int) (k : Nat) (a a' : Nat × Int),(∀ x ∈ r,0 ≤ x) → a'.1 = a.1 → (a'.2 = a.2 * t ∨ (a.2 = -1 ∧ a'.2 = -1)) → (pk (mulR t r) o k a').1 = (pk r o k a).1
  | [],o,k,a,a',_,h,_ => by simpa [mulR,pk] using h
  | x :: r,[],k,a,a',_,h,_ => by simpa [mulR,pk] using h
  | x :: r,y :: o,k,a,a',hx,h1,h2 => by
    have ih := pk_mul ht r o (k + 1)
    have hx0 := hx x (by simp)
    have hxt : 0 ≤ x * t := Int.mul_nonneg hx0 (Int.le_of_lt ht)
    have hc : a'.2 < x * t ↔ a.2 < x := by
      rcases h2 with h2 | ⟨h2,h3⟩
      · rw [h2]
        exact ⟨fun h => Int.lt_of_mul_lt_mul_right h (Int.le_of_lt ht),fun h => Int.mul_lt_mul_of_pos_right h ht⟩
      · rw [h2,h3]; omega
    simp only [mulR,List.map_cons,pk] at ih ⊢
    by_cases c : y = -1 ∧ a.2 < x
    · rw [if_pos c,if_pos ⟨c.1,hc.2 c.2⟩]
      exact ih (k,x) (k,x * t) (fun z hz => hx z (by simp [hz])) rfl (.inl rfl)
    · rw [if_neg c,if_neg fun h => c ⟨h.1,hc.1 h.2⟩]
      exact ih a a' (fun z hz => hx z (by simp [hz])) h1 h2
section
variable (V : List (List Int)) (p : Nat) (hp : p < V.length) {t : Int} (ht : 0 < t) (hV : ∀ i,∀ x ∈ V.getD i [],0 ≤ x)
include hp ht hV
theorem tstep_mul (o : List Int) (w : Int) : tstep (mulV V p t) o w = tstep V o w := by
  unfold tstep
  rw [mulV_at V p hp]
  by_cases c : w.toNat = p
  · rw [if_pos c,pk_mul ht (V.getD p []) o 0 (0,-1) (0,-1) (hV p) rfl (.inr ⟨rfl,rfl⟩),c]
  · rw [if_neg c]
theorem trn_mul (ord : List Int) : ∀ (n k : Nat) (o : List Int),trn (mulV V p t) ord n k o = trn V ord n k o
  | 0,k,o => rfl
  | n + 1,k,o => by rw [trn,trn,tstep_mul V p hp ht hV,trn_mul ord n]
end
theorem ownL_at (V : List (List Int)) (o : List Int) (i : Nat) (h : i < V.length) : (ownL V o 0 V.length)[i]? = some (ws (i : Int) (V.getD i []) o 0) := by
  rw [ownL,List.getElem?_map,List.getElem?_range' h]
  simp
theorem ownL_mul (V : List (List Int)) (p : Nat) (hp : p < V.length) (t : Int) (o : List Int) : ownL (mulV V p t) o 0 V.length = (ownL V o 0 V.length).set p ((ownL V o 0 V.length).getD p 0 * t) := by
  apply List.ext_getElem?
  intro i
  by_cases hi : i < V.length
  · have h1 := ownL_at (mulV V p t) o i (by rw [mulV_len]; exact hi)
    rw [mulV_len] at h1
    rw [h1,List.getElem?_set,ownL_length',mulV_at V p hp]
    by_cases c : p = i
    · subst c
      have e : (ownL V o 0 V.length).getD p 0 = ws (p : Int) (V.getD p []) o 0 := by rw [List.getD_eq_getElem?_getD,ownL_at V o p hi,Option.getD_some]
      rw [if_pos rfl,if_pos rfl,if_pos hi,e,← ws_mul,Int.zero_mul]
    · rw [if_neg c,if_neg (fun e => c e.symm),ownL_at V o i hi]
  · rw [List.getElem?_eq_none (by rw [ownL_length']; omega),List.getElem?_eq_none (by rw [List.length_set,ownL_length']; omega)]
theorem cnt_set {t : Int} (ht : 0 < t) : ∀ (l : List Int) (p : Nat),cnt (l.set p (l.getD p 0 * t)) = cnt l
  | [],p => by simp
  | x :: l,0 => by
    simp only [List.getD_cons_zero,List.set_cons_zero,cnt,cz]
    by_cases c : 0 < x
    · rw [if_pos c,if_pos ((pos_mul ht).2 c)]
    · rw [if_neg c,if_neg (fun h => c ((pos_mul ht).1 h))]
  | x :: l,p + 1 => by
    simp only [List.getD_cons_succ,List.set_cons_succ,cnt]
    rw [cnt_set ht l p]
theorem prd_set {t : Int} (ht : 0 < t) : ∀ (l : List Int) (p : Nat),p < l.length → (∀ x ∈ l,0 < x) → prd (l.set p (l.getD p 0 * t)) = prd l * t
  | [],p,h,_ => by simp at h
  | x :: l,0,_,h => by
    have hx := h x (by simp)
    simp only [List.getD_cons_zero,List.set_cons_zero,prd,pz]
    rw [if_pos hx,if_pos ((pos_mul ht).2 hx),Int.mul_assoc,Int.mul_assoc,Int.mul_comm t]
  | x :: l,p + 1,h1,h => by
    simp only [List.getD_cons_succ,List.set_cons_succ,prd]
    rw [prd_set ht l p (by simpa using h1) (fun y hy => h y (by simp [hy])),Int.mul_assoc]
theorem cnt_le : ∀ (l : List Int),cnt l ≤ l.length
  | [] => by simp [cnt]
  | x :: l => by
    have := cnt_le l
    simp only [cnt,cz,List.length_cons]
    split <;> omega
theorem cnt_full : ∀ (l : List Int),cnt l = l.length ↔ ∀ x ∈ l,0 < x
  | [] => by simp [cnt]
  | x :: l => by
    have ih := cnt_full l
    have hle := cnt_le l
    simp only [cnt,cz,List.length_cons,List.mem_cons,forall_eq_or_imp]
    by_cases c : 0 < x
    · rw [if_pos c]
      rw [← ih]
      exact ⟨fun h => ⟨c,by omega⟩,fun h => by have := h.2; omega⟩
    · rw [if_neg c]
      exact ⟨fun h => by omega,fun h => absurd h.1 c⟩
theorem most_mul (V V' : List (List Int)) (N : Nat) (f f' : List Int → List Int) (hf : ∀ o,prodO V o = (cnt (f o),prd (f o))) (hf' : ∀ o,prodO V' o = (cnt (f' o),prd (f' o))) (hN : ∀ o,(f o).length = N) {t : Int} (ht : 0 < t) (hc : ∀ o,cnt (f' o) = cnt (f o)) (hp : ∀ o,cnt (f o) = N → prd (f' o) = prd (f o) * t) :
    ∀ (L : List (List Int)) (b b' : List Int),((cnt (f b) < N ∧ cnt (f b') < N) ∨ b = b') → cnt (f (mostF V b L)) = N → mostF V' b' L = mostF V b L
  | [],b,b',h,hB => by
    rw [mostF] at hB
    rw [mostF,mostF]
    rcases h with h | h
    · omega
    · exact h.symm
  | x :: L,b,b',h,hB => by
    rw [mostF] at hB ⊢
    rw [mostF]
    refine most_mul V V' N f f' hf hf' hN ht hc hp L _ _ ?_ hB
    have hx := cnt_le (f x)
    have hb := cnt_le (f b)
    have hb' := cnt_le (f b')
    rw [hN] at hx hb hb'
    simp only [gtP,hf,hf',hc]
    by_cases cx : cnt (f x) = N
    · by_cases cb : cnt (f b) < N
      · have cb' : cnt (f b') < N := by
          rcases h with h | h
          · exact h.2
          · rw [← h]; exact cb
        rw [if_pos (by simp; omega),if_pos (by simp; omega)]
        exact .inr rfl
      · have e : b = b' := by
          rcases h with h | h
          · omega
          · exact h
        subst e
        have cb2 : cnt (f b) = N := by omega
        rw [hp x cx,hp b cb2]
        have : (decide (prd (f b) * t < prd (f x) * t)) = decide (prd (f b) < prd (f x)) := decide_eq_decide.2 ⟨fun h => Int.lt_of_mul_lt_mul_right h (Int.le_of_lt ht),fun h => Int.mul_lt_mul_of_pos_right h ht⟩
        rw [this]
        exact .inr rfl
    · by_cases cb : cnt (f b) < N
      · have cb' : cnt (f b') < N := by
          rcases h with h | h
          · exact h.2
          · rw [← h]; exact cb
        refine .inl ⟨?_,?_⟩
        · split <;> omega
        · split <;> omega
      · have e : b = b' := by
          rcases h with h | h
          · omega
          · exact h
        subst e
        have cb2 : cnt (f b) = N := by omega
        rw [if_neg (by simp; omega),if_neg (by simp; omega)]
        exact .inr rfl
end Go.Am.Share
