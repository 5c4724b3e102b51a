import Derived.Test.YtheppipmnfjdcaaDoorRdP10
import Derived.Test.YtheppipmnfjdcaaDoorRdP9
import Derived.Test.YtheppipmnfjdcaaDoorRdC9
import Derived.KernelRfl
import Derived.Test.YtheppipmnfjdcaaDoorLm10
import Derived.Test.YtheppipmnfjdcaaDoorAm17
import Derived.Below
import Derived.ChangeSlices
import Derived.Deep.Matrix
import Derived.OpenShut
import Derived.ChangeArms
set_option linter.unusedVariables false
set_option linter.unusedSimpArgs false
set_option maxRecDepth 10000
namespace Go.Am.Ring
open Go.Am.G
abbrev bys (l : List Nat) : List LV := (ci l).map (LV.int .u8)
def mk1 (n : Nat) (bs : List Nat) (q : Nat) : Nat × Nat := (bs.getD (2 * q) 0 % n,(bs.getD (2 * q) 0 % n + 1 + bs.getD (2 * q + 1) 0 % (n - 1)) % n)
def madeP (n : Nat) (bs : List Nat) (i : Nat) : List (Nat × Nat) := (List.range i).map (mk1 n bs)
theorem madeP_len (n : Nat) (bs : List Nat) (i : Nat) : (madeP n bs i).length = i := by simp [madeP]
theorem madeP_succ (n : Nat) (bs : List Nat) (i : Nat) : madeP n bs (i + 1) = madeP n bs i ++ [mk1 n bs i] := by simp [madeP,List.range_succ]
theorem mk1_ok {n : Nat} (hn : 2 ≤ n) (bs : List Nat) (q : Nat) : (mk1 n bs q).1 < n ∧ (mk1 n bs q).2 < n ∧ (mk1 n bs q).1 ≠ (mk1 n bs q).2 := by
  have h1 : bs.getD (2 * q) 0 % n < n := Nat.mod_lt _ (by omega)
  have h2 : bs.getD (2 * q + 1) 0 % (n - 1) < n - 1 := Nat.mod_lt _ (by omega)
  refine ⟨h1,Nat.mod_lt _ (by omega),?_⟩
  simp only [mk1]
  generalize bs.getD (2 * q) 0 % n = a at *
  generalize bs.getD (2 * q + 1) 0 % (n - 1) = c at *
  by_cases h : a + 1 + c < n
  · rw [Nat.mod_eq_of_lt h]; omega
  · rw [Nat.mod_eq_sub_mod (by omega),Nat.mod_eq_of_lt (by omega)]; omega
theorem made_good {n : Nat} (h2 : 2 ≤ n) (h6 : n ≤ 6) (bs : List Nat) {i : Nat} (hi : i ≤ 12) : Good n (madeP n bs i) := by
  refine ⟨by omega,h6,by rw [madeP_len]; exact hi,fun p hp => ?_,fun p hp => ?_⟩ <;>
  · obtain ⟨q,_,rfl⟩ := List.mem_map.1 hp
    have := mk1_ok h2 bs q
    first | exact ⟨this.1,this.2.1⟩ | exact this.2.2
theorem bys_seg (f k : Nat) (bs : List Nat) (i : Nat) (h : 2 * i + 1 < bs.length) : ((bys (f :: k :: bs)).drop (2 + i * 2)).take 2 = [.int .u8 ((bs.getD (2 * i) 0 : Nat) : Int),.int .u8 ((bs.getD (2 * i + 1) 0 : Nat) : Int)] := by
  have e1 := getD_at bs (2 * i) 0 (by omega)
  have e2 := getD_at bs (2 * i + 1) 0 h
  rw [e1,e2]
  apply List.ext_getElem?
  intro j
  rw [List.getElem?_take]
  match j with
  | 0 =>
    rw [if_pos (by omega),List.getElem?_drop,List.getElem?_map,List.getElem?_map]
    have : 2 + i * 2 + 0 = 2 * i + 1 + 1 := by omega
    rw [this,List.getElem?_cons_succ,List.getElem?_cons_succ,List.getElem?_eq_getElem (by omega)]; rfl
  | 1 =>
    rw [if_pos (by omega),List.getElem?_drop,List.getElem?_map,List.getElem?_map]
    have : 2 + i * 2 + 1 = 2 * i + 1 + 1 + 1 := by omega
    rw [this,List.getElem?_cons_succ,List.getElem?_cons_succ,List.getElem?_eq_getElem (by omega)]; rfl
  | j + 2 => rw [if_neg (by omega)]; rfl
theorem conv8 {x : Nat} (h : x < 256) : IntKind.i64.wrap (x : Int) = (x : Int) := wrap_nat (by omega)
theorem made_loop (n : Nat) (hn : 2 ≤ n ∧ n ≤ 6) (f k : Nat) (bs : List Nat) (hb : bs.length = 24) (hbs : ∀ x ∈ bs,x < 256) (kk : Nat) (hk : kk ≤ 12) (j : Nat) : ∀ (i : Nat) (M : LMem) (v : LV),i + j = kk → M[0]? = some ⟨bys (f :: k :: bs),true⟩ → Lst M v 2 i (Pcs (madeP n bs i)) → ¬ isBlk v 0 →
    ∃ v' M',exF LP law04_Layers_made.L0 [(8,.int .i64 (n : Int)),(9,v),(27,.sl 0 2 kk 12 0 2 26),(28,.int .i64 (kk : Int)),(29,.int .i64 (i : Int))] M = some (.exit 0,[(8,.int .i64 (n : Int)),(9,v')],M') ∧ Lst M' v' 2 kk (Pcs (madeP n bs kk)) := by
  induction j with
  | zero =>
    intro i M v hi h0 hL hb0
    obtain rfl : i = kk := by omega
    refine ⟨v,M,?_,hL⟩
    rw [law04_Layers_made.L0_eq]
    simp only [law04_Layers_made.B0,exF_seq,exF_region,exF_cond,exF_exit,runL,wantL,stepL,evL,LEnv.at,putL,loadFine,LEnv.keep,List.map_cons,List.map_nil,nbeq,bin_lss,Nat.reduceEqDiff,decide_true,decide_false,cond_true,cond_false,eq_self,Int.lt_irrefl]
  | succ j ih =>
    intro i M v hi h0 hL hb0
    have h2 : i < kk := by omega
    have hii : (i : Int) < (kk : Int) := by omega
    have hw := wrap_succ (show i + 1 < 9223372036854775808 by omega)
    have seg := bys_seg f k bs i (by omega)
    have hlen : (bys (f :: k :: bs)).length = 26 := by simp [hb]
    have x0 : bs.getD (2 * i) 0 < 256 := by rw [getD_at bs _ 0 (by omega)]; exact hbs _ (List.getElem_mem _)
    have x1 : bs.getD (2 * i + 1) 0 < 256 := by rw [getD_at bs _ 0 (by omega)]; exact hbs _ (List.getElem_mem _)
    have hM := get_lt h0
    let pr : LBlk := ⟨[.int .u8 ((bs.getD (2 * i) 0 : Nat) : Int),.int .u8 ((bs.getD (2 * i + 1) 0 : Nat) : Int)],true⟩
    have hL1 : Lst (M ++ [pr]) v 2 i (Pcs (madeP n bs i)) := hL.mono fun q hq => by rw [List.getElem?_append_left (hL.lt q hq)]
    obtain ⟨v3,m3,hap,hL3,hk3,hlen3,hb3⟩ := hL1.append (x := .lst false true 2 1 [.int .i64 ((mk1 n bs i).1 : Int),.int .i64 ((mk1 n bs i).2 : Int)]) (k := 1) (news := [.int .i64 ((mk1 n bs i).1 : Int),.int .i64 ((mk1 n bs i).2 : Int)]) (bytes := 16) (by simp [contents,nbeq]) rfl (by omega) (by omega) rfl
    have hL3 : Lst m3 v3 2 (i + 1) (Pcs (madeP n bs (i + 1))) := by
      have e := Pcs_snoc (madeP n bs i) (mk1 n bs i).1 (mk1 n bs i).2
      rw [madeP_succ,show mk1 n bs i = ((mk1 n bs i).1,(mk1 n bs i).2) from rfl,e]; exact hL3
    obtain ⟨v',M',hex,hL'⟩ := ih (i + 1) m3 v3 (by omega) (by rw [hk3 0 (by simp) hb0,List.getElem?_append_left hM]; exact h0) hL3 (fun h => by
      rcases hb3 0 h with h | h
      · exact hb0 h
      · simp at h)
    refine ⟨v',M',?_,hL'⟩
    have r1 : binL .rem (.int .i64 ((bs.getD (2 * i) 0 : Nat) : Int)) (.int .i64 (n : Int)) = some (.int .i64 ((bs.getD (2 * i) 0 % n : Nat) : Int)) := by
      rw [bin_rem (k := .i64) (a := ((bs.getD (2 * i) 0 : Nat) : Int)) (b := (n : Int)) (show (n : Int) ≠ 0 by omega),tmod_nat]
    have hn1 : IntKind.i64.wrap ((n : Int) - 1) = ((n - 1 : Nat) : Int) := by rw [wrap_in (by omega)]; omega
    have r2 : binL .rem (.int .i64 ((bs.getD (2 * i + 1) 0 : Nat) : Int)) (.int .i64 ((n - 1 : Nat) : Int)) = some (.int .i64 ((bs.getD (2 * i + 1) 0 % (n - 1) : Nat) : Int)) := by
      rw [bin_rem (k := .i64) (a := ((bs.getD (2 * i + 1) 0 : Nat) : Int)) (b := ((n - 1 : Nat) : Int)) (show ((n - 1 : Nat) : Int) ≠ 0 by omega),tmod_nat]
    have a0 : bs.getD (2 * i) 0 % n < n := Nat.mod_lt _ (by omega)
    have a1 : bs.getD (2 * i + 1) 0 % (n - 1) < n - 1 := Nat.mod_lt _ (by omega)
    have w1 : IntKind.i64.wrap (((bs.getD (2 * i) 0 % n : Nat) : Int) + 1) = ((bs.getD (2 * i) 0 % n + 1 : Nat) : Int) := wrap_succ (by omega)
    have w2 : IntKind.i64.wrap (((bs.getD (2 * i) 0 % n + 1 : Nat) : Int) + ((bs.getD (2 * i + 1) 0 % (n - 1) : Nat) : Int)) = ((bs.getD (2 * i) 0 % n + 1 + bs.getD (2 * i + 1) 0 % (n - 1) : Nat) : Int) := by rw [wrap_in (by omega)]; omega
    have r3 : binL .rem (.int .i64 ((bs.getD (2 * i) 0 % n + 1 + bs.getD (2 * i + 1) 0 % (n - 1) : Nat) : Int)) (.int .i64 (n : Int)) = some (.int .i64 (((bs.getD (2 * i) 0 % n + 1 + bs.getD (2 * i + 1) 0 % (n - 1)) % n : Nat) : Int)) := by
      rw [bin_rem (k := .i64) (a := ((bs.getD (2 * i) 0 % n + 1 + bs.getD (2 * i + 1) 0 % (n - 1) : Nat) : Int)) (b := (n : Int)) (show (n : Int) ≠ 0 by omega),tmod_nat]
    have c0 := conv8 x0
    have c1 := conv8 x1
    have hml : ¬ M.length + 1 ≤ 0 := by omega
    rw [law04_Layers_made.L0_eq]
    simp only [mk1,pr] at hap
    generalize bys (f :: k :: bs) = W at *
    generalize (bs.getD (2 * i) 0 % n + 1 + bs.getD (2 * i + 1) 0 % (n - 1) : Nat) = s3 at *
    generalize (bs.getD (2 * i) 0 % n : Nat) = s1 at *
    generalize (bs.getD (2 * i + 1) 0 % (n - 1) : Nat) = s2 at *
    generalize bs.getD (2 * i) 0 = y0 at *
    generalize bs.getD (2 * i + 1) 0 = y1 at *
    have hle : 2 + i * 2 + 2 ≤ 26 := by omega
    simp only [law04_Layers_made.B0,law04_Layers_made.B0.R0,exF_seq,exF_region,exF_block,exF_cond,exF_skip,runL,wantL,stepL,evL,evC,LEnv.at,putL,loadFine,loadL,cellsAt,Trk.putNew,Trk.up,Trk.touch,Trk.gives,Trk.calm,Trk.hit,opdsOf,Trk.fresh,LEnv.keep,List.map_cons,List.map_nil,nbeq,nble,nblt,ofAV,ofAVs,bin_add,bin_sub,bin_lss,natL_nat,natL_zero,natL_one,List.any_cons,List.any_nil,Bool.or_false,Bool.false_or,Bool.true_or,Bool.and_true,Nat.reduceEqDiff,decide_true,decide_false,cond_true,cond_false,List.filter_nil,Nat.reduceAdd,Nat.reduceLeDiff,reduceCtorEq,List.length_nil,List.length_cons,Nat.mul_one,eq_self,List.append_nil,List.nil_append,List.cons_append,views_pures,LV.pures,LV.pure,freeze,Nat.reduceDiv,LV.cells,allocL,List.getElem?_cons_zero,List.getElem?_cons_succ,storeL,spliceL,List.take_zero,List.take_succ_cons,List.drop_zero,List.drop_succ_cons,List.drop_nil,List.take_nil,Nat.le_refl,Nat.reduceMul,LV.scalar,List.all_cons,List.all_nil,Nat.lt_add_one,Nat.reduceLT,fillL,List.length_append,hii,h2,h0,hlen,hle,seg,set_last,get_last,Nat.add_zero,c0,c1,r1,hn1,r2,w1,w2,r3,hap,hw,hex]
def FVok (P : List (Nat × Nat)) (a : Bool) (z : Nat) : Prop := P = [] ∨ (a = false ∧ z = 2)
theorem made_c (f k : Nat) (hf : f < 256) (hk : k < 256) (bs : List Nat) (hb : bs.length = 24) (hbs : ∀ x ∈ bs,x < 256) (most many : Nat) (h1 : 2 ≤ most ∧ most ≤ 6) (h2 : many ≤ 12) :
    ∃ a b z,FVok (madeP (2 + f % (most - 1)) bs (k % (many + 1))) a z ∧ ∀ m,clF LP n_law04_Layers_made [.agg (bys (f :: k :: bs)),.int .i64 (most : Int),.int .i64 (many : Int)] m = some (.P,.tup [.int .i64 ((2 + f % (most - 1) : Nat) : Int),FN a b z (madeP (2 + f % (most - 1)) bs (k % (many + 1)))],m) := by
  have hn : 2 ≤ 2 + f % (most - 1) ∧ 2 + f % (most - 1) ≤ 6 := by
    have : f % (most - 1) < most - 1 := Nat.mod_lt _ (by omega)
    omega
  have hkk : k % (many + 1) ≤ 12 := by
    have : k % (many + 1) < many + 1 := Nat.mod_lt _ (by omega)
    omega
  obtain ⟨v',M',hex,hL⟩ := made_loop (2 + f % (most - 1)) hn f k bs hb hbs (k % (many + 1)) hkk (k % (many + 1)) 0 [⟨bys (f :: k :: bs),true⟩] (.lst true true 0 0 []) (by omega) rfl (Lst.nil _ 2) (by simp [isBlk])
  obtain ⟨a,b,z,ids,hz,hnn,_,hvw⟩ := hL.view (Pcs_pures _) (by omega)
  refine ⟨a,b,z,?_,fun m => ?_⟩
  · by_cases c : madeP (2 + f % (most - 1)) bs (k % (many + 1)) = []
    · exact .inl c
    · have hne : k % (many + 1) ≠ 0 := fun e => c (by rw [e]; rfl)
      refine .inr ⟨?_,hz.resolve_left hne⟩
      cases a
      · rfl
      · exact absurd (hnn rfl) hne
  · have hv2 : view 100 M' (.tup [.int .i64 ((2 + f % (most - 1) : Nat) : Int),v']) = some (.tup [.int .i64 ((2 + f % (most - 1) : Nat) : Int),.lst a b z (k % (many + 1)) (Pcs (madeP (2 + f % (most - 1)) bs (k % (many + 1))))],ids) := by
      by_cases hp : LV.pures [.int .i64 ((2 + f % (most - 1) : Nat) : Int),v'] = true
      · have e1 := hvw 97
        have hvp : v'.pure = true := by simpa [LV.pures,LV.pure] using hp
        rw [view_pure 98 M' v' hvp] at e1
        simp only [Option.some.injEq,Prod.mk.injEq] at e1
        obtain ⟨e1,e2⟩ := e1
        rw [view_pure 98 M' _ (by simpa [LV.pure] using hp),← e2,e1]
      · have := views_snd 91 M' (.int .i64 ((2 + f % (most - 1) : Nat) : Int)) v' _ ids hvw rfl (by simpa using hp)
        rw [view.eq_def]
        simp only [this]
    have hml := madeP_len (2 + f % (most - 1)) bs (k % (many + 1))
    simp only [FN_eq,hml]
    refine call_Pv lp_law04_Layers_made rfl (by simp only [LV.pures,LV.pure,pures_int,Bool.and_self]) (m1 := M') (v := .tup [.int .i64 ((2 + f % (most - 1) : Nat) : Int),v']) (ids := ids) ?_ hv2 m
    have hlen : (bys (f :: k :: bs)).length = 26 := by simp [hb]
    have b0 : (bys (f :: k :: bs))[0]? = some (.int .u8 (f : Int)) := rfl
    have b1 : (bys (f :: k :: bs))[1]? = some (.int .u8 (k : Int)) := rfl
    have c0 := conv8 hf
    have c1 := conv8 hk
    have w1 : IntKind.i64.wrap ((most : Int) - 1) = ((most - 1 : Nat) : Int) := by rw [wrap_in (by omega)]; omega
    have r1 : binL .rem (.int .i64 (f : Int)) (.int .i64 ((most - 1 : Nat) : Int)) = some (.int .i64 ((f % (most - 1) : Nat) : Int)) := by
      rw [bin_rem (k := .i64) (a := (f : Int)) (b := ((most - 1 : Nat) : Int)) (show ((most - 1 : Nat) : Int) ≠ 0 by omega),tmod_nat]
    have w2 : IntKind.i64.wrap (2 + ((f % (most - 1) : Nat) : Int)) = ((2 + f % (most - 1) : Nat) : Int) := by rw [wrap_in (by omega)]; omega
    have w3 : IntKind.i64.wrap ((many : Int) + 1) = ((many + 1 : Nat) : Int) := wrap_succ (by omega)
    have r2 : binL .rem (.int .i64 (k : Int)) (.int .i64 ((many + 1 : Nat) : Int)) = some (.int .i64 ((k % (many + 1) : Nat) : Int)) := by
      rw [bin_rem (k := .i64) (a := (k : Int)) (b := ((many + 1 : Nat) : Int)) (show ((many + 1 : Nat) : Int) ≠ 0 by omega),tmod_nat]
    simp only [Int.natCast_zero] at hex
    generalize bys (f :: k :: bs) = W at *
    generalize (2 + f % (most - 1) : Nat) = n at *
    generalize (k % (many + 1) : Nat) = kk at *
    have hsl : sliceArrL 12 2 (.ptr 0 2 26) none (some (.int .i64 (kk : Int))) = some (.sl 0 2 kk 12 0 2 26) := by
      have h1 : Nat.ble kk 12 = true := by rw [nble]; simpa using hkk
      have h2 : Nat.ble 0 kk = true := by rw [nble]; simp
      simp [sliceArrL,optNatL,natL_nat,h1,h2]
    simp only [law04_Layers_made,law04_Layers_made.B,law04_Layers_made.B.R0,law04_Layers_made.B.R1,exF_seq,exF_region,exF_block,exF_ret,runL,wantL,stepL,evL,evC,LEnv.at,putL,loadFine,loadL,cellsAt,Trk.putNew,Trk.up,Trk.touch,Trk.gives,Trk.calm,Trk.hit,opdsOf,Trk.fresh,LEnv.keep,LEnv.ofFrom,List.map_cons,List.map_nil,nbeq,nble,lenL,bin_add,bin_sub,List.any_cons,List.any_nil,Bool.or_false,Bool.or_true,Bool.and_true,Bool.false_and,Bool.not_true,Bool.not_false,Nat.reduceEqDiff,decide_true,decide_false,cond_true,cond_false,List.filter_nil,Nat.reduceAdd,Nat.reduceLeDiff,reduceCtorEq,List.length_nil,List.length_cons,eq_self,retL,resultsL,resAllL,resOfL,List.nil_append,LV.cells,allocL,List.getElem?_cons_zero,List.drop_zero,hlen,Nat.zero_add,b0,b1,c0,c1,w1,r1,w2,w3,r2,Option.map_none,Option.map_some,hsl,hex]
end Go.Am.Ring
set_option linter.unusedVariables false
set_option linter.unusedSimpArgs false
set_option maxRecDepth 100000
set_option maxHeartbeats 1000000
namespace Go.Am.Ring
open Go.Am.G
theorem run0 : callL LP 3000 n_law04_F [] [] = some (.P,.lst false false 2 5 [.int .i64 0,.int .i64 1,.int .i64 1,.int .i64 2,.int .i64 2,.int .i64 0,.int .i64 2,.int .i64 3,.int .i64 3,.int .i64 1],[]) := by kernel_rfl
theorem ran0 (m : LMem) : clF LP n_law04_F [] m = some (.P,.lst false false 2 5 [.int .i64 0,.int .i64 1,.int .i64 1,.int .i64 2,.int .i64 2,.int .i64 0,.int .i64 2,.int .i64 3,.int .i64 3,.int .i64 1],m) := call_ran lp_law04_F rfl rfl run0 m
theorem run1 : callL LP 3000 n_law04_G [] [] = some (.P,.lst false false 2 4 [.int .i64 0,.int .i64 1,.int .i64 1,.int .i64 0,.int .i64 0,.int .i64 1,.int .i64 1,.int .i64 0],[]) := by kernel_rfl
theorem ran1 (m : LMem) : clF LP n_law04_G [] m = some (.P,.lst false false 2 4 [.int .i64 0,.int .i64 1,.int .i64 1,.int .i64 0,.int .i64 0,.int .i64 1,.int .i64 1,.int .i64 0],m) := call_ran lp_law04_G rfl rfl run1 m
theorem run2 : callL LP 3000 n_law04_finds [.lst false true 1 2 [.int .i64 0,.int .i64 1]] [] = some (.P,.lst false false 2 1 [.int .i64 0,.int .i64 1],[]) := by kernel_rfl
theorem ran2 (m : LMem) : clF LP n_law04_finds [.lst false true 1 2 [.int .i64 0,.int .i64 1]] m = some (.P,.lst false false 2 1 [.int .i64 0,.int .i64 1],m) := call_ran lp_law04_finds rfl rfl run2 m
theorem run3 : callL LP 3000 n_law04_finds [.lst false true 1 10 [.int .i64 0,.int .i64 1,.int .i64 2,.int .i64 0,.int .i64 2,.int .i64 1,.int .i64 2,.int .i64 3,.int .i64 3,.int .i64 1]] [] = some (.P,.lst false false 2 5 [.int .i64 0,.int .i64 1,.int .i64 2,.int .i64 0,.int .i64 2,.int .i64 1,.int .i64 2,.int .i64 3,.int .i64 3,.int .i64 1],[]) := by kernel_rfl
theorem ran3 (m : LMem) : clF LP n_law04_finds [.lst false true 1 10 [.int .i64 0,.int .i64 1,.int .i64 2,.int .i64 0,.int .i64 2,.int .i64 1,.int .i64 2,.int .i64 3,.int .i64 3,.int .i64 1]] m = some (.P,.lst false false 2 5 [.int .i64 0,.int .i64 1,.int .i64 2,.int .i64 0,.int .i64 2,.int .i64 1,.int .i64 2,.int .i64 3,.int .i64 3,.int .i64 1],m) := call_ran lp_law04_finds rfl rfl run3 m
theorem run4 : callL LP 3000 n_law04_finds [.lst false true 1 10 [.int .i64 0,.int .i64 1,.int .i64 2,.int .i64 1,.int .i64 2,.int .i64 0,.int .i64 2,.int .i64 3,.int .i64 3,.int .i64 1]] [] = some (.P,.lst false false 2 5 [.int .i64 0,.int .i64 1,.int .i64 2,.int .i64 1,.int .i64 2,.int .i64 0,.int .i64 2,.int .i64 3,.int .i64 3,.int .i64 1],[]) := by kernel_rfl
theorem ran4 (m : LMem) : clF LP n_law04_finds [.lst false true 1 10 [.int .i64 0,.int .i64 1,.int .i64 2,.int .i64 1,.int .i64 2,.int .i64 0,.int .i64 2,.int .i64 3,.int .i64 3,.int .i64 1]] m = some (.P,.lst false false 2 5 [.int .i64 0,.int .i64 1,.int .i64 2,.int .i64 1,.int .i64 2,.int .i64 0,.int .i64 2,.int .i64 3,.int .i64 3,.int .i64 1],m) := call_ran lp_law04_finds rfl rfl run4 m
theorem run5 : callL LP 3000 n_ring_Strike [.int .i64 2,.lst false false 2 4 [.int .i64 0,.int .i64 1,.int .i64 1,.int .i64 0,.int .i64 0,.int .i64 1,.int .i64 1,.int .i64 0]] [] = some (.P,.tup [.lst false false 1 2 [.int .i64 0,.int .i64 2],.int .i64 0],[]) := by kernel_rfl
theorem ran5 (m : LMem) : clF LP n_ring_Strike [.int .i64 2,.lst false false 2 4 [.int .i64 0,.int .i64 1,.int .i64 1,.int .i64 0,.int .i64 0,.int .i64 1,.int .i64 1,.int .i64 0]] m = some (.P,.tup [.lst false false 1 2 [.int .i64 0,.int .i64 2],.int .i64 0],m) := call_ran lp_ring_Strike rfl rfl run5 m
theorem run6 : callL LP 3000 n_ring_Turn [.int .i64 4,.lst false false 2 5 [.int .i64 0,.int .i64 1,.int .i64 1,.int .i64 2,.int .i64 2,.int .i64 0,.int .i64 2,.int .i64 3,.int .i64 3,.int .i64 1],.lst false true 1 1 [.int .i64 1]] [] = some (.P,.tup [.lst false false 2 5 [.int .i64 0,.int .i64 1,.int .i64 2,.int .i64 1,.int .i64 2,.int .i64 0,.int .i64 2,.int .i64 3,.int .i64 3,.int .i64 1],.int .i64 0],[]) := by kernel_rfl
theorem ran6 (m : LMem) : clF LP n_ring_Turn [.int .i64 4,.lst false false 2 5 [.int .i64 0,.int .i64 1,.int .i64 1,.int .i64 2,.int .i64 2,.int .i64 0,.int .i64 2,.int .i64 3,.int .i64 3,.int .i64 1],.lst false true 1 1 [.int .i64 1]] m = some (.P,.tup [.lst false false 2 5 [.int .i64 0,.int .i64 1,.int .i64 2,.int .i64 1,.int .i64 2,.int .i64 0,.int .i64 2,.int .i64 3,.int .i64 3,.int .i64 1],.int .i64 0],m) := call_ran lp_ring_Turn rfl rfl run6 m
theorem run7 : callL LP 3000 n_ring_Ring [.int .i64 4,.lst false false 2 5 [.int .i64 0,.int .i64 1,.int .i64 1,.int .i64 2,.int .i64 2,.int .i64 0,.int .i64 2,.int .i64 3,.int .i64 3,.int .i64 1]] [] = some (.P,.tup [.lst false false 1 3 [.int .i64 0,.int .i64 1,.int .i64 2],.int .i64 0],[]) := by kernel_rfl
theorem ran7 (m : LMem) : clF LP n_ring_Ring [.int .i64 4,.lst false false 2 5 [.int .i64 0,.int .i64 1,.int .i64 1,.int .i64 2,.int .i64 2,.int .i64 0,.int .i64 2,.int .i64 3,.int .i64 3,.int .i64 1]] m = some (.P,.tup [.lst false false 1 3 [.int .i64 0,.int .i64 1,.int .i64 2],.int .i64 0],m) := call_ran lp_ring_Ring rfl rfl run7 m
theorem run8 : callL LP 3000 n_ring_Apart [.int .i64 2,.lst false false 2 4 [.int .i64 0,.int .i64 1,.int .i64 1,.int .i64 0,.int .i64 0,.int .i64 1,.int .i64 1,.int .i64 0]] [] = some (.P,.tup [.lst false false 1 2 [.lst false false 1 2 [.int .i64 0,.int .i64 1],.lst false false 1 2 [.int .i64 2,.int .i64 3]],.int .i64 0],[]) := by kernel_rfl
theorem ran8 (m : LMem) : clF LP n_ring_Apart [.int .i64 2,.lst false false 2 4 [.int .i64 0,.int .i64 1,.int .i64 1,.int .i64 0,.int .i64 0,.int .i64 1,.int .i64 1,.int .i64 0]] m = some (.P,.tup [.lst false false 1 2 [.lst false false 1 2 [.int .i64 0,.int .i64 1],.lst false false 1 2 [.int .i64 2,.int .i64 3]],.int .i64 0],m) := call_ran lp_ring_Apart rfl rfl run8 m
theorem run9 : callL LP 3000 n_ring_Ring [.int .i64 3,.lst false false 2 1 [.int .i64 0,.int .i64 1]] [] = some (.P,.tup [.lst true true 0 0 [],.int .i64 13],[]) := by kernel_rfl
theorem ran9 (m : LMem) : clF LP n_ring_Ring [.int .i64 3,.lst false false 2 1 [.int .i64 0,.int .i64 1]] m = some (.P,.tup [.lst true true 0 0 [],.int .i64 13],m) := call_ran lp_ring_Ring rfl rfl run9 m
theorem run10 : callL LP 3000 n_ring_Proves [.int .i64 4,.lst false false 2 5 [.int .i64 0,.int .i64 1,.int .i64 1,.int .i64 2,.int .i64 2,.int .i64 0,.int .i64 2,.int .i64 3,.int .i64 3,.int .i64 1],.lst false true 1 3 [.int .i64 1,.int .i64 3,.int .i64 4]] [] = some (.P,.int .i64 0,[]) := by kernel_rfl
theorem ran10 (m : LMem) : clF LP n_ring_Proves [.int .i64 4,.lst false false 2 5 [.int .i64 0,.int .i64 1,.int .i64 1,.int .i64 2,.int .i64 2,.int .i64 0,.int .i64 2,.int .i64 3,.int .i64 3,.int .i64 1],.lst false true 1 3 [.int .i64 1,.int .i64 3,.int .i64 4]] m = some (.P,.int .i64 0,m) := call_ran lp_ring_Proves rfl rfl run10 m
theorem run11 : callL LP 3000 n_ring_Proves [.int .i64 4,.lst false false 2 5 [.int .i64 0,.int .i64 1,.int .i64 1,.int .i64 2,.int .i64 2,.int .i64 0,.int .i64 2,.int .i64 3,.int .i64 3,.int .i64 1],.lst false true 1 3 [.int .i64 3,.int .i64 4,.int .i64 1]] [] = some (.P,.int .i64 14,[]) := by kernel_rfl
theorem ran11 (m : LMem) : clF LP n_ring_Proves [.int .i64 4,.lst false false 2 5 [.int .i64 0,.int .i64 1,.int .i64 1,.int .i64 2,.int .i64 2,.int .i64 0,.int .i64 2,.int .i64 3,.int .i64 3,.int .i64 1],.lst false true 1 3 [.int .i64 3,.int .i64 4,.int .i64 1]] m = some (.P,.int .i64 14,m) := call_ran lp_ring_Proves rfl rfl run11 m
theorem run12 : callL LP 3000 n_law04_lists [.lst false false 1 2 [.lst false false 1 2 [.int .i64 0,.int .i64 1],.lst false false 1 2 [.int .i64 2,.int .i64 3]],.lst false true 1 2 [.lst false true 1 2 [.int .i64 0,.int .i64 1],.lst false true 1 2 [.int .i64 2,.int .i64 3]]] [] = some (.P,.bool true,[]) := by kernel_rfl
theorem ran12 (m : LMem) : clF LP n_law04_lists [.lst false false 1 2 [.lst false false 1 2 [.int .i64 0,.int .i64 1],.lst false false 1 2 [.int .i64 2,.int .i64 3]],.lst false true 1 2 [.lst false true 1 2 [.int .i64 0,.int .i64 1],.lst false true 1 2 [.int .i64 2,.int .i64 3]]] m = some (.P,.bool true,m) := call_ran lp_law04_lists rfl rfl run12 m
theorem list_c (v : LV) (hv : v.pure = true) (m : LMem) : clF LP n_law04_list [v] m = some (.P,v,m) := by
  refine call_P lp_law04_list rfl (by simp [LV.pures,hv]) (m1 := []) ?_ hv m
  simp only [law04_list,law04_list.B,beqT,beqF,exF_seq,exF_region,exF_block,exF_cond,exF_ret,exF_exit,exF_skip,runL,wantL,stepL,evL,evC,LEnv.at,putL,loadFine,loadL,cellsAt,Trk.putNew,Trk.up,Trk.touch,Trk.gives,Trk.calm,Trk.hit,opdsOf,Trk.fresh,LEnv.keep,LEnv.ofFrom,List.map_cons,List.map_nil,nbeq,nble,nblt,ofAV,ofAVs,lenL,bin_add,bin_sub,bin_mul,bin_eql,bin_neq,bin_lss,bin_leq,bin_gtr,bin_geq,natL_nat,natL_zero,natL_one,natL_two,Nat.zero_mul,List.any_cons,List.any_nil,Bool.or_false,Bool.false_or,Bool.true_or,Bool.or_true,Bool.and_true,Bool.true_and,Bool.and_false,Bool.false_and,Bool.not_true,Bool.not_false,Nat.reduceBEq,Nat.reduceEqDiff,decide_true,decide_false,cond_true,cond_false,List.filter_nil,List.filter_cons,Nat.reduceAdd,Nat.reduceLeDiff,reduceCtorEq,List.length_nil,List.length_cons,Nat.mul_one,if_true,if_false,Bool.false_eq_true,eq_self,and_true,true_and,retL,resultsL,resAllL,resOfL,List.append_nil,List.nil_append,List.cons_append,true_or,or_true,false_or,or_false,false_and,and_false,not_true_eq_false,not_false_eq_true,ne_eq,unL,trim_nil,views_pures,LV.pures,LV.pure,freeze,Nat.reduceDiv,Int.reduceEq,Int.reduceLT,Int.reduceLE,Int.natCast_zero,LV.cells,allocL,List.getElem?_cons_zero,List.getElem?_cons_succ,storeL,spliceL,List.take_zero,List.take_succ_cons,List.drop_zero,List.drop_succ_cons,List.drop_nil,List.take_nil,Nat.le_refl,Nat.reduceMul,List.set_cons_zero,List.set_cons_succ,LV.scalar,List.all_cons,List.all_nil,Nat.lt_add_one,Nat.zero_lt_one,Nat.reduceLT,Nat.lt_irrefl,fillL,List.length_append,foldIntL,kind_beq,pures_int,solids_int,plains_int,unders_int,scalars_int]
def PF : List (Nat × Nat) := [(0,1),(1,2),(2,0),(2,3),(3,1)]
def PG : List (Nat × Nat) := [(0,1),(1,0),(0,1),(1,0)]
theorem GF : Good 4 PF := ⟨by decide,by decide,by decide,by decide,by decide⟩
theorem GG : Good 2 PG := ⟨by decide,by decide,by decide,by decide,by decide⟩
theorem fwF : fwD anyM PF 4 0 = (1,2) := by kernel_rfl
theorem fwG : fwD anyM PG 2 0 = (2,2) := by kernel_rfl
theorem greF : gre PF 4 4 0 = [2,0,3,1] := by kernel_rfl
theorem sureF : sureS 4 PF = [(0,1),(2,0),(2,1),(2,3),(3,1)] := by kernel_rfl
theorem w0 (m : LMem) : clF LP n_ring_Against [.int .i64 4,.lst false false 2 5 [.int .i64 0,.int .i64 1,.int .i64 1,.int .i64 2,.int .i64 2,.int .i64 0,.int .i64 2,.int .i64 3,.int .i64 3,.int .i64 1],.lst false true 1 4 [.int .i64 0,.int .i64 1,.int .i64 2,.int .i64 3]] m = some (.P,.tup [.lst false false 1 2 [.int .i64 2,.int .i64 4],.int .i64 0],m) := agnP_c false false false true 2 1 4 (PF.map castP) [0,1,2,3] (by decide) (by decide) m
theorem w1 (m : LMem) : clF LP n_ring_Fewest [.int .i64 2,.lst false false 2 4 [.int .i64 0,.int .i64 1,.int .i64 1,.int .i64 0,.int .i64 0,.int .i64 1,.int .i64 1,.int .i64 0]] m = some (.P,.tup [.int .i64 2,.int .i64 0],m) := by
  have h := fewest_c 2 PG GG false false 2 m
  rw [fwG] at h
  exact h
theorem w2 (m : LMem) : clF LP n_ring_Order [.int .i64 4,.lst false false 2 5 [.int .i64 0,.int .i64 1,.int .i64 1,.int .i64 2,.int .i64 2,.int .i64 0,.int .i64 2,.int .i64 3,.int .i64 3,.int .i64 1]] m = some (.P,.tup [.lst false false 1 4 [.int .i64 2,.int .i64 0,.int .i64 3,.int .i64 1],.int .i64 0],m) := by
  have h := order_c 4 PF GF false false 2 m
  rw [greF] at h
  exact h
theorem w3 (m : LMem) : clF LP n_ring_Count [.int .i64 4,.lst false false 2 5 [.int .i64 0,.int .i64 1,.int .i64 1,.int .i64 2,.int .i64 2,.int .i64 0,.int .i64 2,.int .i64 3,.int .i64 3,.int .i64 1]] m = some (.P,.tup [.int .i64 2,.int .i64 0],m) := by
  have h := count_c 4 PF GF false false 2 m
  rw [fwF] at h
  exact h
theorem w4 : ∃ a b z,∀ m,clF LP n_ring_Sure [.int .i64 4,.lst false false 2 5 [.int .i64 0,.int .i64 1,.int .i64 1,.int .i64 2,.int .i64 2,.int .i64 0,.int .i64 2,.int .i64 3,.int .i64 3,.int .i64 1]] m = some (.P,.tup [.lst a b z 5 [.int .i64 0,.int .i64 1,.int .i64 2,.int .i64 0,.int .i64 2,.int .i64 1,.int .i64 2,.int .i64 3,.int .i64 3,.int .i64 1],.int .i64 0],m) := by
  obtain ⟨a,b,z,h⟩ := sure_c 4 PF GF false false 2
  rw [sureF] at h
  exact ⟨a,b,z,h⟩
theorem l0 (m : LMem) : clF LP n_law04_list [.lst false true 1 4 [.int .i64 0,.int .i64 1,.int .i64 2,.int .i64 3]] m = some (.P,.lst false true 1 4 [.int .i64 0,.int .i64 1,.int .i64 2,.int .i64 3],m) := list_c _ rfl m
theorem l1 (m : LMem) : clF LP n_law04_list [.lst false true 1 1 [.int .i64 1]] m = some (.P,.lst false true 1 1 [.int .i64 1],m) := list_c _ rfl m
theorem l2 (m : LMem) : clF LP n_law04_list [.lst false true 1 2 [.int .i64 2,.int .i64 4]] m = some (.P,.lst false true 1 2 [.int .i64 2,.int .i64 4],m) := list_c _ rfl m
theorem l3 (m : LMem) : clF LP n_law04_list [.lst false true 1 4 [.int .i64 2,.int .i64 0,.int .i64 3,.int .i64 1]] m = some (.P,.lst false true 1 4 [.int .i64 2,.int .i64 0,.int .i64 3,.int .i64 1],m) := list_c _ rfl m
theorem l4 (m : LMem) : clF LP n_law04_list [.lst false true 1 2 [.int .i64 0,.int .i64 2]] m = some (.P,.lst false true 1 2 [.int .i64 0,.int .i64 2],m) := list_c _ rfl m
theorem l5 (m : LMem) : clF LP n_law04_list [.lst false true 1 3 [.int .i64 0,.int .i64 1,.int .i64 2]] m = some (.P,.lst false true 1 3 [.int .i64 0,.int .i64 1,.int .i64 2],m) := list_c _ rfl m
theorem l6 (m : LMem) : clF LP n_law04_list [.lst false true 1 3 [.int .i64 1,.int .i64 3,.int .i64 4]] m = some (.P,.lst false true 1 3 [.int .i64 1,.int .i64 3,.int .i64 4],m) := list_c _ rfl m
theorem l7 (m : LMem) : clF LP n_law04_list [.lst false true 1 3 [.int .i64 3,.int .i64 4,.int .i64 1]] m = some (.P,.lst false true 1 3 [.int .i64 3,.int .i64 4,.int .i64 1],m) := list_c _ rfl m
theorem s0 (m : LMem) : clF LP n_law04_same [.lst false false 1 2 [.int .i64 2,.int .i64 4],.lst false true 1 2 [.int .i64 2,.int .i64 4]] m = some (.P,.bool true,m) := same_c false false false true 1 1 [2,4] [2,4] (by decide) (by decide) m
theorem s1 (m : LMem) : clF LP n_law04_same [.lst false false 1 4 [.int .i64 2,.int .i64 0,.int .i64 3,.int .i64 1],.lst false true 1 4 [.int .i64 2,.int .i64 0,.int .i64 3,.int .i64 1]] m = some (.P,.bool true,m) := same_c false false false true 1 1 [2,0,3,1] [2,0,3,1] (by decide) (by decide) m
theorem s2 (m : LMem) : clF LP n_law04_same [.lst false false 1 2 [.int .i64 0,.int .i64 2],.lst false true 1 2 [.int .i64 0,.int .i64 2]] m = some (.P,.bool true,m) := same_c false false false true 1 1 [0,2] [0,2] (by decide) (by decide) m
theorem s3 (m : LMem) : clF LP n_law04_same [.lst false false 1 3 [.int .i64 0,.int .i64 1,.int .i64 2],.lst false true 1 3 [.int .i64 0,.int .i64 1,.int .i64 2]] m = some (.P,.bool true,m) := same_c false false false true 1 1 [0,1,2] [0,1,2] (by decide) (by decide) m
theorem p0 (m : LMem) : clF LP n_law04_pairs [.lst false false 2 5 [.int .i64 0,.int .i64 1,.int .i64 2,.int .i64 1,.int .i64 2,.int .i64 0,.int .i64 2,.int .i64 3,.int .i64 3,.int .i64 1],.lst false false 2 5 [.int .i64 0,.int .i64 1,.int .i64 2,.int .i64 1,.int .i64 2,.int .i64 0,.int .i64 2,.int .i64 3,.int .i64 3,.int .i64 1]] m = some (.P,.bool true,m) := pairs_c false false false false 2 2 [(0,1),(2,1),(2,0),(2,3),(3,1)] [(0,1),(2,1),(2,0),(2,3),(3,1)] (by decide) (by decide) m
theorem works_c (m : LMem) : clF LP n_law04_works [] m = some (.P,.bool true,m) := by
  obtain ⟨a,b,z,hs⟩ := w4
  have hp : ∀ m,clF LP n_law04_pairs [.lst a b z 5 [.int .i64 0,.int .i64 1,.int .i64 2,.int .i64 0,.int .i64 2,.int .i64 1,.int .i64 2,.int .i64 3,.int .i64 3,.int .i64 1],.lst false false 2 5 [.int .i64 0,.int .i64 1,.int .i64 2,.int .i64 0,.int .i64 2,.int .i64 1,.int .i64 2,.int .i64 3,.int .i64 3,.int .i64 1]] m = some (.P,.bool true,m) := fun m => pairs_c a b false false z 2 [(0,1),(2,0),(2,1),(2,3),(3,1)] [(0,1),(2,0),(2,1),(2,3),(3,1)] (by decide) (by decide) m
  refine call_P lp_law04_works rfl rfl (m1 := []) ?_ rfl m
  simp only [law04_works,law04_works.B,law04_works.B.R0,law04_works.B.R1,law04_works.B.R2,law04_works.B.R3]
  repeat (rw [exF_seq]; try simp only [beqT,beqF,exF_region,exF_block,exF_cond,exF_ret,exF_exit,exF_skip,runL,wantL,stepL,evL,evC,LEnv.at,putL,loadFine,loadL,cellsAt,Trk.putNew,Trk.up,Trk.touch,Trk.gives,Trk.calm,Trk.hit,opdsOf,Trk.fresh,LEnv.keep,LEnv.ofFrom,List.map_cons,List.map_nil,nbeq,nble,nblt,ofAV,ofAVs,lenL,bin_add,bin_sub,bin_mul,bin_eql,bin_neq,bin_lss,bin_leq,bin_gtr,bin_geq,natL_nat,natL_zero,natL_one,natL_two,Nat.zero_mul,List.any_cons,List.any_nil,Bool.or_false,Bool.false_or,Bool.true_or,Bool.or_true,Bool.and_true,Bool.true_and,Bool.and_false,Bool.false_and,Bool.not_true,Bool.not_false,Nat.reduceBEq,Nat.reduceEqDiff,decide_true,decide_false,cond_true,cond_false,List.filter_nil,List.filter_cons,Nat.reduceAdd,Nat.reduceLeDiff,reduceCtorEq,List.length_nil,List.length_cons,Nat.mul_one,if_true,if_false,Bool.false_eq_true,eq_self,and_true,true_and,retL,resultsL,resAllL,resOfL,List.append_nil,List.nil_append,List.cons_append,true_or,or_true,false_or,or_false,false_and,and_false,not_true_eq_false,not_false_eq_true,ne_eq,unL,trim_nil,views_pures,LV.pures,LV.pure,freeze,Nat.reduceDiv,Int.reduceEq,Int.reduceLT,Int.reduceLE,Int.natCast_zero,LV.cells,allocL,List.getElem?_cons_zero,List.getElem?_cons_succ,storeL,spliceL,List.take_zero,List.take_succ_cons,List.drop_zero,List.drop_succ_cons,List.drop_nil,List.take_nil,Nat.le_refl,Nat.reduceMul,List.set_cons_zero,List.set_cons_succ,LV.scalar,List.all_cons,List.all_nil,Nat.lt_add_one,Nat.zero_lt_one,Nat.reduceLT,Nat.lt_irrefl,fillL,List.length_append,foldIntL,kind_beq,pures_int,solids_int,plains_int,unders_int,scalars_int,ran0,ran1,ran2,ran3,ran4,ran5,ran6,ran7,ran8,ran9,ran10,ran11,ran12,l0,l1,l2,l3,l4,l5,l6,l7,w0,w1,w2,w3,hs,hp,s0,s1,s2,s3,p0])
end Go.Am.Ring
set_option linter.unusedVariables false
namespace Go.Am
variable [Glo]
open Go.RowKit
def Placed (ρ : PM) (b : Nat) (ps : List Place) : Prop := ∀ (i : Nat) (p : Place),ps[i]? = some p → ρ (b + i) = some p
def Shows (s : Sit) (b : Nat) (bl : List (List AV)) : Prop := ∀ (i : Nat) (cs : List AV),bl[i]? = some cs → s.A (b + i) ∧ s.am.look (b + i) = some ⟨cs,false⟩
def ArgOk (w : World) (v : Value) (lv : LV) : Prop :=
  ∃ (bl : Nat → List (List AV)) (ps : List Place) (av : Nat → AV),(∀ b,(bl b).length = ps.length) ∧
    (∀ (ρ : PM) (b : Nat),Placed ρ b ps → VR ρ (av b) v ∧ ∀ (i : Nat) (cs : List AV) (p : Place),(bl b)[i]? = some cs → ps[i]? = some p → p.map = false ∧ CellsAt ρ w cs p) ∧
    (∀ (s : Sit) (b : Nat),Shows s b (bl b) → LR s lv (av b))
inductive ArgsOk (w : World) : List Value → List LV → Prop
  | nil : ArgsOk w [] []
  | cons {v : Value} {lv : LV} {vs : List Value} {lvs : List LV} (h : ArgOk w v lv) (hr : ArgsOk w vs lvs) : ArgsOk w (v :: vs) (lv :: lvs)
omit [Glo] in
theorem append_get {α : Type} (a b : List α) (i : Nat) (x : α) (h : (a ++ b)[i]? = some x) : (i < a.length ∧ a[i]? = some x) ∨ (a.length ≤ i ∧ b[i - a.length]? = some x) := by
  by_cases hi : i < a.length
  · rw [List.getElem?_append_left hi] at h; exact .inl ⟨hi,h⟩
  · rw [List.getElem?_append_right (by omega)] at h; exact .inr ⟨by omega,h⟩
omit [Glo] in
theorem args_all {w : World} : ∀ {vs : List Value} {lvs : List LV},ArgsOk w vs lvs → ∃ (bl : Nat → List (List AV)) (ps : List Place) (avs : Nat → List AV),(∀ b,(bl b).length = ps.length) ∧
    (∀ (ρ : PM) (b : Nat),Placed ρ b ps → VRs ρ (avs b) vs ∧ ∀ (i : Nat) (cs : List AV) (p : Place),(bl b)[i]? = some cs → ps[i]? = some p → p.map = false ∧ CellsAt ρ w cs p) ∧
    (∀ (s : Sit) (b : Nat),Shows s b (bl b) → LRs s lvs (avs b))
  | _,_,.nil => ⟨fun _ => [],[],fun _ => [],fun _ => rfl,fun ρ b _ => ⟨.nil,fun i cs p h => by simp at h⟩,fun s b _ => .nil⟩
  | _,_,.cons h hr => by
    obtain ⟨bl1,ps1,av1,a1,a2,a3⟩ := h
    obtain ⟨bl2,ps2,av2,b1,b2,b3⟩ := args_all hr
    refine ⟨fun b => bl1 b ++ bl2 (b + ps1.length),ps1 ++ ps2,fun b => av1 b :: av2 (b + ps1.length),fun b => by simp [a1,b1],fun ρ b hp => ?_,fun s b hs => ?_⟩
    · have hp1 : Placed ρ b ps1 := fun i p h => hp i p (by rw [List.getElem?_append_left (List.getElem?_eq_some_iff.1 h).1]; exact h)
      have hp2 : Placed ρ (b + ps1.length) ps2 := fun i p h => by
        have := hp (ps1.length + i) p (by rw [List.getElem?_append_right (by omega)]; simpa using h)
        rw [Nat.add_assoc]; exact this
      obtain ⟨c1,c2⟩ := a2 ρ b hp1
      obtain ⟨d1,d2⟩ := b2 ρ _ hp2
      refine ⟨.cons c1 d1,fun i cs p hcs hpp => ?_⟩
      rcases append_get _ _ _ _ hcs with ⟨e1,e2⟩ | ⟨e1,e2⟩
      · rw [a1] at e1
        rw [List.getElem?_append_left e1] at hpp
        exact c2 i cs p e2 hpp
      · rw [a1] at e1 e2
        rw [List.getElem?_append_right e1] at hpp
        exact d2 _ cs p e2 hpp
    · refine .cons (a3 s b fun i cs h => hs i cs (by rw [List.getElem?_append_left (List.getElem?_eq_some_iff.1 h).1]; exact h)) (b3 s _ fun i cs h => ?_)
      have := hs (ps1.length + i) cs (by rw [List.getElem?_append_right (by rw [a1]; omega)]; rw [a1]; simpa using h)
      rw [Nat.add_assoc]; exact this
def gPlaces (n : Nat) : List Place := (List.range n).map fun g => ⟨g,0,0,false⟩
omit [Glo] in
theorem gPlaces_get {n g : Nat} {p : Place} (h : (gPlaces n)[g]? = some p) : p = ⟨g,0,0,false⟩ := by
  unfold gPlaces at h
  rw [List.getElem?_map] at h
  obtain ⟨x,hx,rfl⟩ := Option.map_eq_some_iff.1 h
  have hg := (List.getElem?_eq_some_iff.1 hx).1
  simp at hg
  rw [List.getElem?_range hg] at hx
  cases hx; rfl
theorem law_glob {P : Program} {C : Prog} {LP : LProg} (hC : ProgOk C P) (hmix : P.follows .mixedOrders = true) (hL : ProgL LP C) {f : Nat} {lvs : List LV} {md : Mode} {m' : LMem} (h : clF LP f lvs [] = some (md,.bool true,m'))
    {w : World} {cargs : Array Value} (ha : ArgsOk w cargs.toList lvs) (gb : List (List AV)) (hgb : gb.length = P.globals.size) (hT : ∀ g l,Glo.tab g = some l → gb[g]? = some l) (hcell : ∀ (ρ : PM) (g : Nat) (cs : List AV),gb[g]? = some cs → CellsAt ρ w cs ⟨g,0,0,false⟩) :
    Calls P f cargs w fun e w' => e = .returned (.bool true) ∧ Below w.heap.size w w' := by
  obtain ⟨bl,ps,avs,h1,h2,h3⟩ := args_all ha
  obtain ⟨n,hn⟩ := clF_some.1 h
  generalize hN : gb.length = N at hgb
  generalize hall : gb ++ bl N = all
  have hget : ∀ (i : Nat) (cs : List AV),(bl N)[i]? = some cs → all[N + i]? = some cs := fun i cs hi => by
    rw [← hall,List.getElem?_append_right (by omega),hN,Nat.add_sub_cancel_left]; exact hi
  have hs : Shows ⟨[],memOf all,fun _ => 0,fun b => b < all.length⟩ N (bl N) := fun i cs hi =>
    ⟨(List.getElem?_eq_some_iff.1 (hget i cs hi)).1,by show (memOf all).look (N + i) = _; rw [memOf_look,hget i cs hi]; rfl⟩
  have hrel : Rel2 ⟨[],memOf all,fun _ => 0,fun b => b < all.length⟩ := by
    refine ⟨fun i b hb => by simp at hb,fun i j b b' hb => by simp at hb,fun b hb => ?_,fun b ab hb => ?_,fun g l hg => ?_⟩
    · have hb : b < all.length := hb
      exact ⟨⟨all[b],false⟩,by show (memOf all).look b = _; rw [memOf_look,List.getElem?_eq_getElem hb]; rfl⟩
    · have hb : (memOf all).look b = some ab := hb
      show b < (memOf all).next
      rw [memOf_next]
      rw [memOf_look] at hb
      obtain ⟨x,hx,_⟩ := Option.map_eq_some_iff.1 hb
      exact (List.getElem?_eq_some_iff.1 hx).1
    · have e : all[g]? = some l := by
        have := hT g l hg
        rw [← hall,List.getElem?_append_left (List.getElem?_eq_some_iff.1 this).1]; exact this
      exact ⟨(List.getElem?_eq_some_iff.1 e).1,by show (memOf all).look g = _; rw [memOf_look,e]; rfl⟩
  obtain ⟨av,am',h4,t,_,_,_,_,h5,_⟩ := callL_sound hL n f lvs [] md (.bool true) m' hn _ (avs N) rfl hrel (h3 _ N hs)
  cases h5
  generalize hpl : gPlaces N ++ ps = pl
  have hgl : (gPlaces N).length = N := by simp [gPlaces]
  have hplaced : Placed (placesOf pl) N ps := fun i p hp => by
    show pl[N + i]? = some p
    rw [← hpl,List.getElem?_append_right (by omega),hgl,Nat.add_sub_cancel_left]; exact hp
  obtain ⟨h6,h7⟩ := h2 (placesOf pl) N hplaced
  refine law_calls hC hmix (l := all) (ps := pl) h4 (by rw [← hall,← hpl,List.length_append,List.length_append,h1,hgl,hN]) (fun i cs p hcs hp => ?_) h6 fun g hg => ?_
  · rw [← hall] at hcs
    rw [← hpl] at hp
    rcases append_get _ _ _ _ hcs with ⟨e1,e2⟩ | ⟨e1,e2⟩
    · rw [List.getElem?_append_left (by omega)] at hp
      rw [gPlaces_get hp]
      exact ⟨rfl,hcell _ i cs e2⟩
    · rw [List.getElem?_append_right (by omega),hgl] at hp
      rw [hN] at e2
      exact h7 _ cs p e2 hp
  · have hg : g < N := by omega
    refine ⟨⟨g,0,0,false⟩,?_,rfl,rfl,rfl⟩
    show pl[g]? = _
    rw [← hpl,List.getElem?_append_left (by omega)]
    simp [gPlaces,hg]
end Go.Am
set_option linter.unusedVariables false
namespace Go.Am
variable [Glo]
open Go.ChangeShapes Go.RowKit Go.Deep
end Go.Am
set_option linter.unusedVariables false
namespace Go.Am
variable [Glo]
open Go.ChangeShapes Go.RowKit Go.Deep
section
variable {H : Type} {enc : TypeId × Value → H} {P : Program} {w : World} {base fuel : Nat} {sp : Nat → Bool} {held : Bool}
end
end Go.Am
set_option linter.unusedVariables false
set_option linter.unusedSimpArgs false
set_option maxRecDepth 10000
namespace Go.Am.Ring
open Go.Am.G
end Go.Am.Ring
set_option linter.unusedVariables false
set_option linter.unusedSimpArgs false
set_option maxRecDepth 10000
set_option maxHeartbeats 1000000
namespace Go.Am.Ring
open Go.Am.G
theorem strikeF_len (P : List (Nat × Nat)) : ∀ (k : Nat) (b l : List Nat),strikeS P k b = some l → l.length = b.length + k
  | 0,b,l,h => by
    rw [strikeS] at h
    split at h
    · cases h; rfl
    · cases h
  | k + 1,b,l,h => by
    rw [strikeS] at h
    obtain ⟨i,_,hi⟩ := List.exists_of_findSome?_eq_some h
    have := strikeF_len P k (b ++ [i]) l hi
    simp at this; omega
theorem strL_len {n : Nat} {P : List (Nat × Nat)} (G : Good n P) : (strL n P).length = FW n P := by
  have := strikeF_len P _ _ _ (strike_some G).1
  simpa using this
theorem strike_v (n : Nat) (P : List (Nat × Nat)) (G : Good n P) (nl ex : Bool) (sz : Nat) (hv : FVok P nl sz) : ∃ a b z,∀ m,clF LP n_ring_Strike [.int .i64 (n : Int),FN nl ex sz P] m = some (.P,.tup [.lst a b z (strL n P).length ((ci (strL n P)).map (LV.int .i64)),.int .i64 0],m) := by
  have hc := fun m => check_c nl ex sz (n : Int) (P.map castP) (by have := G.le12; simp; omega) m
  rw [chkF_of G] at hc
  have hpu : LV.pures [.int .i64 (n : Int),FN nl ex sz P] = true := by simp [LV.pures,LV.pure]
  by_cases hP : P = []
  · subst hP
    refine ⟨true,true,0,fun m => ?_⟩
    have hcl := fun m => clone20_c nl ex sz m
    have hL : exF LP ring_Strike.L0 [(0,.int .i64 (n : Int)),(7,.lst true true 0 0 []),(8,.lst nl true 0 0 []),(22,.int .i64 0),(23,.int .i64 0)] [] = some (.exit 0,[(7,.lst true true 0 0 [])],[]) := by
      rw [ring_Strike.L0_eq]
      simp only [ring_Strike.B0,exF_seq,exF_region,exF_cond,exF_exit,runL,wantL,stepL,evL,LEnv.at,putL,loadFine,LEnv.keep,List.map_cons,List.map_nil,nbeq,bin_lss,Nat.reduceEqDiff,decide_true,decide_false,cond_true,cond_false,reduceCtorEq,eq_self,Int.reduceLT]
    have e : strL n [] = [] := rfl
    rw [e]
    refine call_P lp_ring_Strike rfl hpu (m1 := []) ?_ rfl m
    simp only [FN,FL,List.map_nil,List.length_nil,show pcI [] = [] from rfl] at hc ⊢
    simp only [ring_Strike,ring_Strike.B,exF_seq,exF_region,exF_block,exF_cond,exF_ret,exF_skip,runL,wantL,stepL,evL,evC,LEnv.at,putL,loadFine,LEnv.keep,LEnv.ofFrom,List.map_cons,List.map_nil,nbeq,ofAVs,lenL,bin_neq,Nat.reduceEqDiff,decide_true,decide_false,cond_true,cond_false,Nat.reduceAdd,reduceCtorEq,eq_self,retL,resultsL,resAllL,resOfL,List.append_nil,List.nil_append,not_true_eq_false,ne_eq,Int.natCast_zero,hc,hcl,hL]
  · obtain ⟨rfl,rfl⟩ := hv.resolve_left hP
    have hne : P.map castP ≠ [] := by simpa using hP
    have hcl := fun m => clone2_c ex (P.map castP) (by have := G.le12; simp; omega) hne m
    rw [List.length_map] at hcl
    have V : LV2 [⟨pcI (P.map castP),true⟩] (.sl 0 0 P.length P.length 2 2 (P.length * 2)) 0 (wS P []) := by
      have e : wS P [] = P := wo_nil P 0
      rw [e]
      exact ⟨P.length,P.length * 2,[],true,rfl,by simp,by simp [Pcs_len],Nat.le_refl _⟩
    obtain ⟨vo',M',he,hL⟩ := strike_ploop n P G P.length 0 [] [⟨pcI (P.map castP),true⟩] (.lst true true 0 0 []) (.sl 0 0 P.length P.length 2 2 (P.length * 2)) 0 (by omega) List.nodup_nil (by simp) (Lst.nil _ 1) V (by simp [isBlk])
    obtain ⟨a,b,z,ids,hz,_,_,hvw⟩ := hL.view (pures_int _ _) (by omega)
    refine ⟨a,b,z,fun m => ?_⟩
    have hv2 : view 100 M' (.tup [vo',.int .i64 0]) = some (.tup [.lst a b z (strL n P).length ((ci (strL n P)).map (LV.int .i64)),.int .i64 0],ids) := by
      by_cases hp : LV.pures [vo',.int .i64 0] = true
      · have e1 := hvw 97
        have hvp : vo'.pure = true := by simpa [LV.pures,LV.pure] using hp
        rw [view_pure 98 M' vo' hvp] at e1
        simp only [Option.some.injEq,Prod.mk.injEq] at e1
        obtain ⟨e1,e2⟩ := e1
        rw [view_pure 98 M' _ (by simpa [LV.pure] using hp),← e2,e1]
      · exact view_tup2 M' vo' (.int .i64 0) _ ids hvw rfl (by simpa using hp)
    refine call_Pv lp_ring_Strike rfl hpu (m1 := M') (v := .tup [vo',.int .i64 0]) (ids := ids) ?_ hv2 m
    simp only [Int.natCast_zero] at he
    simp only [FN_eq] at hc ⊢
    simp only [FL,List.length_map] at hcl
    simp only [ring_Strike,ring_Strike.B,exF_seq,exF_region,exF_block,exF_cond,exF_ret,exF_skip,runL,wantL,stepL,evL,evC,LEnv.at,putL,loadFine,LEnv.keep,LEnv.ofFrom,List.map_cons,List.map_nil,nbeq,ofAVs,lenL,bin_neq,Nat.reduceEqDiff,decide_true,decide_false,cond_true,cond_false,Nat.reduceAdd,reduceCtorEq,List.length_nil,eq_self,retL,resultsL,resAllL,resOfL,List.append_nil,List.nil_append,not_true_eq_false,ne_eq,hc,hcl,he]
theorem bys_of : ∀ (ns : List Int),(∀ x ∈ ns,0 ≤ x ∧ x < 256) → ∃ l : List Nat,ns = ci l ∧ (∀ x ∈ l,x < 256) ∧ l.length = ns.length
  | [],_ => ⟨[],rfl,by simp,rfl⟩
  | x :: r,h => by
    obtain ⟨l,rfl,h1,h2⟩ := bys_of r fun y hy => h y (by simp [hy])
    obtain ⟨k,rfl⟩ := Int.eq_ofNat_of_zero_le (h x (by simp)).1
    have := (h k (by simp)).2
    refine ⟨k :: l,rfl,fun y hy => ?_,by simp⟩
    rcases List.mem_cons.1 hy with rfl | hy
    · omega
    · exact h1 y hy
theorem lay_of (ns : List Int) (hl : ns.length = 26) (h : ∀ x ∈ ns,0 ≤ x ∧ x < 256) : ∃ (f k : Nat) (bs : List Nat),ns.map (LV.int .u8) = bys (f :: k :: bs) ∧ f < 256 ∧ k < 256 ∧ bs.length = 24 ∧ ∀ x ∈ bs,x < 256 := by
  obtain ⟨l,rfl,h1,h2⟩ := bys_of ns h
  match l,h2,h1 with
  | f :: k :: bs,h2,h1 =>
    refine ⟨f,k,bs,rfl,h1 f (by simp),h1 k (by simp),?_,fun x hx => h1 x (by simp [hx])⟩
    simp at hl; omega
  | [_],h2,_ => simp at hl
  | [],h2,_ => simp at hl
end Go.Am.Ring
