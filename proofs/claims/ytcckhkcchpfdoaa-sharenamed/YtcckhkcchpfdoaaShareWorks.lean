import Derived.Test.YtcckhkcchpfdoaaShareL
import Derived.Test.YtcckhkcchpfdoaaLm10
import Derived.KernelRfl
import Derived.Test.YtcckhkcchpfdoaaShareC9
set_option maxRecDepth 100000
namespace Go.Am.Share
theorem works_run : isTrueL (callL LP 2000 n_law07_works [] []) = true := by kernel_rfl
theorem works_c (m : LMem) : clF LP n_law07_works [] m = some (.P,.bool true,m) := call_run lp_law07_works rfl works_run m
end Go.Am.Share
set_option linter.unusedVariables false
set_option linter.unusedSimpArgs false
set_option maxRecDepth 10000
namespace Go.Am.Share
end Go.Am.Share
namespace Go.Am.Share
end Go.Am.Share
set_option linter.unusedVariables false
set_option linter.unusedSimpArgs false
set_option maxRecDepth 10000
namespace Go.Am.Share
abbrev ints (l : List Int) : List LV := l.map (LV.int .i64)
end Go.Am.Share
set_option linter.unusedVariables false
set_option linter.unusedSimpArgs false
set_option maxRecDepth 10000
namespace Go.Am
theorem freeze_nil (m : LMem) : freeze [] m = m := by
  unfold freeze; simp
theorem call_O {C : LProg} {f : Nat} {lf : LFunc} (hC : C f = some lf) (hm : lf.mode = .O) {args : List LV} (hp : LV.pures args = true) {v : LV} {m1 : LMem} (h : retL lf.results (exF C lf.body (LEnv.ofFrom 0 args) []) = some (v,m1)) (m : LMem) :
    clF C f args m = some (.O,v.shift m.length,m ++ m1.map fun b => ⟨LV.shifts m.length b.cells,b.own⟩) := by
  rw [clF_eq,hC]
  simp only [callMode,hm,views_pures m args hp,h,freeze_nil]
  cases newOnly v m1 <;> rfl
namespace Share
def nones (L : Nat) : List Int := List.replicate L (-1)
theorem repeat_run : ∀ (L : Nat),L ≤ 6 → exF LP slices_Repeat_int_int.B (LEnv.ofFrom 0 [.lst false true 1 1 [.int .i64 (-1)],.int .i64 (L : Int)]) [] = some (.ret,[(4,.sl 0 0 L L 0 1 L)],[⟨(nones L).map (LV.int .i64),true⟩])
  | 0,_ => exF_some.2 ⟨100,by kernel_rfl⟩
  | 1,_ => exF_some.2 ⟨100,by kernel_rfl⟩
  | 2,_ => exF_some.2 ⟨100,by kernel_rfl⟩
  | 3,_ => exF_some.2 ⟨100,by kernel_rfl⟩
  | 4,_ => exF_some.2 ⟨100,by kernel_rfl⟩
  | 5,_ => exF_some.2 ⟨100,by kernel_rfl⟩
  | 6,_ => exF_some.2 ⟨100,by kernel_rfl⟩
  | n + 7,h => absurd h (by omega)
theorem repeat_c (L : Nat) (h : L ≤ 6) (m : LMem) : clF LP n_slices_Repeat_int_int [.lst false true 1 1 [.int .i64 (-1)],.int .i64 (L : Int)] m = some (.O,.sl m.length 0 L L 0 1 L,m ++ [⟨(nones L).map (LV.int .i64),true⟩]) := by
  rw [call_O lp_slices_Repeat_int_int rfl (by simp [LV.pures,LV.pure]) (v := .sl 0 0 L L 0 1 L) (m1 := [⟨(nones L).map (LV.int .i64),true⟩]) (by simp only [slices_Repeat_int_int,repeat_run L h]; rfl) m]
  simp [LV.shift,shifts_int]
theorem row_shift (n : Nat) (nl ex : Bool) (sz : Nat) (rs : List Row) : (VL nl ex sz rs).shift n = VL nl ex sz rs := by
  have : LV.shifts n (rs.map Row.lv) = rs.map Row.lv := by
    induction rs with
    | nil => rfl
    | cons a r ih => simp [LV.shifts,LV.shift,ih]
  simp [LV.shift]
theorem empty_c (nl ex : Bool) (sz : Nat) (rs : List Row) (h0 : 0 < rs.length) (h : rs[0].l.length ≤ 6) (m : LMem) :
    clF LP n_share_empty [VL nl ex sz rs] m = some (.O,.agg [VL nl ex sz rs,.sl (m.length + 1) 0 rs[0].l.length rs[0].l.length 0 1 rs[0].l.length],m ++ [⟨[VL nl ex sz rs,.sl (m.length + 1) 0 rs[0].l.length rs[0].l.length 0 1 rs[0].l.length],true⟩,⟨(nones rs[0].l.length).map (LV.int .i64),true⟩]) := by
  rw [call_O lp_share_empty rfl (by simp [LV.pures,LV.pure]) (v := .agg [VL nl ex sz rs,.sl 1 0 rs[0].l.length rs[0].l.length 0 1 rs[0].l.length]) (m1 := [⟨[VL nl ex sz rs,.sl 1 0 rs[0].l.length rs[0].l.length 0 1 rs[0].l.length],true⟩,⟨(nones rs[0].l.length).map (LV.int .i64),true⟩]) ?_ m]
  · have hs := row_shift m.length nl ex sz rs
    simp only [LV.shift] at hs
    simp [LV.shift,LV.shifts,shifts_int,Nat.add_comm]
  · have hr := fun m => repeat_c rs[0].l.length h m
    simp only [share_empty,share_empty.B,exF_seq,exF_region,exF_ret,runL,wantL,stepL,evL,evC,LEnv.at,putL,loadFine,loadL,cellsAt,Trk.putNew,Trk.up,Trk.touch,Trk.gives,Trk.calm,opdsOf,Trk.fresh,LEnv.keep,LEnv.ofFrom,List.map_cons,List.map_nil,nbeq,nble,nblt,ofAV,ofAVs,lenL,natL_zero,List.any_cons,List.any_nil,Bool.or_false,Bool.or_true,Bool.and_true,Bool.false_and,Bool.not_true,Bool.not_false,Nat.reduceEqDiff,decide_true,decide_false,cond_true,cond_false,List.filter_nil,List.filter_cons,Nat.reduceAdd,Nat.reduceLeDiff,reduceCtorEq,List.length_nil,List.length_cons,Nat.mul_one,if_true,eq_self,retL,resultsL,resAllL,resOfL,List.append_nil,List.nil_append,List.cons_append,views_pures,LV.pures,LV.pure,freeze,Nat.reduceDiv,LV.cells,allocL,List.getElem?_cons_zero,storeL,spliceL,List.take_zero,List.take_succ_cons,List.drop_zero,List.drop_succ_cons,List.drop_nil,List.take_nil,Nat.le_refl,List.set_cons_zero,LV.scalar,List.all_cons,List.all_nil,fillL,h0,row_at _ _ h0,hr]
end Share
end Go.Am
