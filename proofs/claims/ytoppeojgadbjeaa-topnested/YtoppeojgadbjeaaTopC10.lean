import Derived.Test.YtoppeojgadbjeaaTopC9
set_option linter.unusedVariables false
set_option linter.unusedSimpArgs false
set_option maxRecDepth 10000
namespace Go.Am.Top
open Go.Am.G
theorem set_at (L : List Int) (i : Nat) (v : Int) (h : i < L.length) : ((L.set i v).map (LV.int .i64))[i]? = some (.int .i64 v) := by simp [h]
theorem set_other (L : List Int) (i j : Nat) (v w : Int) (hj : L[j]? = some w) (h : i ≠ j) : ((L.set i v).map (LV.int .i64))[j]? = some (.int .i64 w) := by
  rw [List.getElem?_map,List.getElem?_set,if_neg h,hj]; rfl
theorem set_again (L : List Int) (i : Nat) (v u : Int) (h : i < L.length) : ((L.set i v).map (LV.int .i64)).take i ++ [.int .i64 u] ++ ((L.set i v).map (LV.int .i64)).drop (i + 1) = (L.set i u).map (LV.int .i64) := by
  rw [set_int .i64 (L.set i v) i u (by simpa using h),List.set_set]
theorem set_mlen (L : List Int) (i : Nat) (v : Int) : ((L.set i v).map (LV.int .i64)).length = L.length := by simp
def Et (fs : List Nat) (n S k : Nat) : List Int := (List.range S).map fun d => if k ≤ d then ((en (mayB fs) n d : Nat) : Int) else 0
theorem Et_len (fs : List Nat) (n S k : Nat) : (Et fs n S k).length = S := by simp [Et]
theorem Et_at (fs : List Nat) (n S k d : Nat) (h : d < S) (hk : k ≤ d) : (Et fs n S k)[d]? = some ((en (mayB fs) n d : Nat) : Int) := by simp [Et,h,hk]
theorem Et_set (fs : List Nat) (n S k : Nat) : (Et fs n S (k + 1)).set k ((en (mayB fs) n k : Nat) : Int) = Et fs n S k := by
  apply List.ext_getElem?
  intro i
  rw [List.getElem?_set,Et_len]
  by_cases hi : i < S
  · by_cases c : k = i
    · subst c; simp [hi,Et]
    · simp [c,Et,hi]
      by_cases c2 : k ≤ i
      · rw [if_pos (by omega),if_pos c2]
      · rw [if_neg (by omega),if_neg c2]
  · rw [List.getElem?_eq_none (by rw [Et_len]; omega),List.getElem?_eq_none (by rw [Et_len]; omega)]
    split
    · split
      · omega
      · rfl
    · rfl
theorem Et_zero (fs : List Nat) (n S k : Nat) : (Et fs n S (k + 1)).set k 0 = Et fs n S (k + 1) := by
  apply List.ext_getElem?
  intro i
  rw [List.getElem?_set,Et_len]
  by_cases hi : i < S
  · by_cases c : k = i
    · subst c
      simp [hi,Et]
      intro h; omega
    · simp [c]
  · rw [List.getElem?_eq_none (l := Et fs n S (k + 1)) (by rw [Et_len]; omega)]
    split
    · split
      · omega
      · rfl
    · rfl
theorem Et_top (fs : List Nat) (n A : Nat) (hA : 2 ^ n = A + 1) : Et fs n (A + 1) A = (List.replicate (A + 1) (0 : Int)).set A 1 := by
  apply List.ext_getElem?
  intro i
  rw [List.getElem?_set]
  by_cases hi : i < A + 1
  · have e := en_all (mayB fs) n
    rw [show 2 ^ n - 1 = A by omega] at e
    by_cases c : A ≤ i
    · obtain rfl : i = A := by omega
      rw [Et_at _ _ _ _ _ hi c,e]; simp
    · simp [Et,hi,c]
      intro c2; omega
  · rw [List.getElem?_eq_none (by rw [Et_len]; omega),if_neg (by omega),List.getElem?_eq_none (by simp; omega)]
def ME' (n : Nat) (V : LV) (L : List Int) : LMem := [⟨[.int .i64 (n : Int),V],true⟩,⟨L.map (LV.int .i64),true⟩]
theorem end0_loop {fs : List Nat} {n : Nat} (nl ex : Bool) (sz : Nat) (hn : n ≤ 7) (hl : fs.length < 1000000) (hfs : ∀ F ∈ fs,F < 256) (S : Nat) (hS : S = 2 ^ n) (L : List Int) (hL : L.length = S) (d : Nat) (hd : d < S)
    (hLn : ∀ x,d < x → x < S → L[x]? = some ((en (mayB fs) n x : Nat) : Int)) (t : Nat) : ∀ (k acc : Nat),k + t = n → acc = (List.range k).foldl (estep (mayB fs) (en (mayB fs) n) d) 0 →
    exF LP style_table_endings.L0 [(1,.ptr 0 0 2),(3,.sl 1 0 S S 0 1 S),(4,.int .i64 (d : Int)),(23,.int .i64 (n : Int)),(24,.int .i64 (k : Int))] (ME' n (UV nl ex sz fs) (L.set d (acc : Int))) =
      some (.exit 2,[(1,.ptr 0 0 2),(3,.sl 1 0 S S 0 1 S),(4,.int .i64 (d : Int))],ME' n (UV nl ex sz fs) (L.set d (((List.range n).foldl (estep (mayB fs) (en (mayB fs) n) d) 0 : Nat) : Int))) := by
  have hS7 : S ≤ 128 := by
    have : 2 ^ n ≤ 2 ^ 7 := Nat.pow_le_pow_right (by omega) hn
    omega
  induction t with
  | zero =>
    intro k acc hk ha
    obtain rfl : k = n := by omega
    rw [style_table_endings.L0_eq,← ha]
    simp only [style_table_endings.B0,beqT,beqF,exF_seq,exF_region,exF_block,exF_cond,exF_ret,exF_exit,exF_skip,runL,wantL,stepL,evL,evC,LEnv.at,putL,loadFine,loadL,cellsAt,Trk.putNew,Trk.up,Trk.touch,Trk.gives,Trk.calm,Trk.hit,opdsOf,Trk.fresh,LEnv.keep,LEnv.ofFrom,List.map_cons,List.map_nil,nbeq,nble,nblt,ofAV,ofAVs,lenL,bin_add,bin_sub,bin_mul,bin_eql,bin_neq,bin_lss,bin_leq,bin_gtr,bin_geq,natL_nat,natL_zero,natL_one,natL_two,Nat.zero_mul,List.any_cons,List.any_nil,Bool.or_false,Bool.false_or,Bool.true_or,Bool.or_true,Bool.and_true,Bool.true_and,Bool.and_false,Bool.false_and,Bool.not_true,Bool.not_false,Nat.reduceBEq,Nat.reduceEqDiff,decide_true,decide_false,cond_true,cond_false,List.filter_nil,List.filter_cons,Nat.reduceAdd,Nat.reduceLeDiff,reduceCtorEq,List.length_nil,List.length_cons,Nat.mul_one,if_true,if_false,Bool.false_eq_true,eq_self,and_true,true_and,retL,resultsL,resAllL,resOfL,List.append_nil,List.nil_append,List.cons_append,true_or,or_true,false_or,or_false,false_and,and_false,not_true_eq_false,not_false_eq_true,ne_eq,unL,trim_nil,views_pures,LV.pures,LV.pure,freeze,Nat.reduceDiv,Int.reduceEq,Int.reduceLT,Int.reduceLE,Int.natCast_zero,LV.cells,allocL,List.getElem?_cons_zero,List.getElem?_cons_succ,storeL,spliceL,List.take_zero,List.take_succ_cons,List.drop_zero,List.drop_succ_cons,List.drop_nil,List.take_nil,Nat.le_refl,Nat.reduceMul,List.set_cons_zero,List.set_cons_succ,LV.scalar,List.all_cons,List.all_nil,Nat.lt_add_one,Nat.zero_lt_one,Nat.reduceLT,Nat.lt_irrefl,fillL,List.length_append,foldIntL,kind_beq,pures_int,solids_int,plains_int,unders_int,scalars_int,Int.lt_irrefl]
  | succ t ih =>
    intro k acc hk ha
    have h2 : k < n := by omega
    have ih := fun acc' h => ih (k + 1) acc' (by omega) h
    have hacc : acc ≤ k * 823543 := by
      have := efold_le (mayB fs) (en (mayB fs) n) d 823543 (fun x => en_le _ _ hn x) (List.range k) 0
      rw [ha]
      simpa using this
    have hk7 : k * 823543 ≤ 7 * 823543 := Nat.mul_le_mul_right _ (by omega)
    have hki : (k : Int) < (n : Int) := by omega
    have wk := wrap_succ (show k + 1 < 9223372036854775808 by omega)
    have hu := u8w (n := d) (by omega)
    have hm := fun m => may_c (fs := fs) (n := n) (d := d) (x := k) nl ex sz hl hfs (by omega) (by omega) m
    rw [List.range_succ,List.foldl_append,List.foldl_cons,List.foldl_nil,← ha] at ih
    rw [style_table_endings.L0_eq]
    cases hb : mayB fs d k
    · rw [hb] at hm
      have ih := ih acc (by simp [estep,hb])
      simp only [ME'] at ih ⊢
      simp only [style_table_endings.B0,beqT,beqF,exF_seq,exF_region,exF_block,exF_cond,exF_ret,exF_exit,exF_skip,runL,wantL,stepL,evL,evC,LEnv.at,putL,loadFine,loadL,cellsAt,Trk.putNew,Trk.up,Trk.touch,Trk.gives,Trk.calm,Trk.hit,opdsOf,Trk.fresh,LEnv.keep,LEnv.ofFrom,List.map_cons,List.map_nil,nbeq,nble,nblt,ofAV,ofAVs,lenL,bin_add,bin_sub,bin_mul,bin_eql,bin_neq,bin_lss,bin_leq,bin_gtr,bin_geq,natL_nat,natL_zero,natL_one,natL_two,Nat.zero_mul,List.any_cons,List.any_nil,Bool.or_false,Bool.false_or,Bool.true_or,Bool.or_true,Bool.and_true,Bool.true_and,Bool.and_false,Bool.false_and,Bool.not_true,Bool.not_false,Nat.reduceBEq,Nat.reduceEqDiff,decide_true,decide_false,cond_true,cond_false,List.filter_nil,List.filter_cons,Nat.reduceAdd,Nat.reduceLeDiff,reduceCtorEq,List.length_nil,List.length_cons,Nat.mul_one,if_true,if_false,Bool.false_eq_true,eq_self,and_true,true_and,retL,resultsL,resAllL,resOfL,List.append_nil,List.nil_append,List.cons_append,true_or,or_true,false_or,or_false,false_and,and_false,not_true_eq_false,not_false_eq_true,ne_eq,unL,trim_nil,views_pures,LV.pures,LV.pure,freeze,Nat.reduceDiv,Int.reduceEq,Int.reduceLT,Int.reduceLE,Int.natCast_zero,LV.cells,allocL,List.getElem?_cons_zero,List.getElem?_cons_succ,storeL,spliceL,List.take_zero,List.take_succ_cons,List.drop_zero,List.drop_succ_cons,List.drop_nil,List.take_nil,Nat.le_refl,Nat.reduceMul,List.set_cons_zero,List.set_cons_succ,LV.scalar,List.all_cons,List.all_nil,Nat.lt_add_one,Nat.zero_lt_one,Nat.reduceLT,Nat.lt_irrefl,fillL,List.length_append,foldIntL,kind_beq,pures_int,solids_int,plains_int,unders_int,scalars_int,hki,hu,hm,wk,ih]
    · rw [hb] at hm
      have hbit := mayB_bit d k hb
      have hnl := next_lt d k n (by omega) h2
      have hgt := next_gt d k hbit
      have hne := hLn _ hgt (by omega)
      have hle := en_le (mayB fs) n hn (d ||| 2 ^ k)
      have ih := ih (acc + en (mayB fs) n (d ||| 2 ^ k)) (by simp [estep,hb])
      have hsl := sshl (i := k) (by omega)
      have hp2 : (2 : Nat) ^ k < 128 := Nat.lt_of_lt_of_le (Nat.pow_lt_pow_right (by omega) h2) (by omega)
      have hor := sor (a := d) (b := 2 ^ k) (by omega) (by omega)
      have a1 := fun v => set_at L d v (by omega)
      have a2 := fun v => set_other L d _ v _ hne (by omega)
      have a3 := fun v => set_mlen L d v
      have a4 := fun v u => set_again L d v u (by omega)
      rw [hL] at a3
      have hww : IntKind.i64.wrap ((acc : Int) + ((en (mayB fs) n (d ||| 2 ^ k) : Nat) : Int)) = ((acc + en (mayB fs) n (d ||| 2 ^ k) : Nat) : Int) := by
        rw [wrap_in (by omega)]; omega
      have hnS : d ||| 2 ^ k < S := by rw [hS]; exact hnl
      simp only [ME'] at ih ⊢
      simp only [style_table_endings.B0,beqT,beqF,exF_seq,exF_region,exF_block,exF_cond,exF_ret,exF_exit,exF_skip,runL,wantL,stepL,evL,evC,LEnv.at,putL,loadFine,loadL,cellsAt,Trk.putNew,Trk.up,Trk.touch,Trk.gives,Trk.calm,Trk.hit,opdsOf,Trk.fresh,LEnv.keep,LEnv.ofFrom,List.map_cons,List.map_nil,nbeq,nble,nblt,ofAV,ofAVs,lenL,bin_add,bin_sub,bin_mul,bin_eql,bin_neq,bin_lss,bin_leq,bin_gtr,bin_geq,natL_nat,natL_zero,natL_one,natL_two,Nat.zero_mul,List.any_cons,List.any_nil,Bool.or_false,Bool.false_or,Bool.true_or,Bool.or_true,Bool.and_true,Bool.true_and,Bool.and_false,Bool.false_and,Bool.not_true,Bool.not_false,Nat.reduceBEq,Nat.reduceEqDiff,decide_true,decide_false,cond_true,cond_false,List.filter_nil,List.filter_cons,Nat.reduceAdd,Nat.reduceLeDiff,reduceCtorEq,List.length_nil,List.length_cons,Nat.mul_one,if_true,if_false,Bool.false_eq_true,eq_self,and_true,true_and,retL,resultsL,resAllL,resOfL,List.append_nil,List.nil_append,List.cons_append,true_or,or_true,false_or,or_false,false_and,and_false,not_true_eq_false,not_false_eq_true,ne_eq,unL,trim_nil,views_pures,LV.pures,LV.pure,freeze,Nat.reduceDiv,Int.reduceEq,Int.reduceLT,Int.reduceLE,Int.natCast_zero,LV.cells,allocL,List.getElem?_cons_zero,List.getElem?_cons_succ,storeL,spliceL,List.take_zero,List.take_succ_cons,List.drop_zero,List.drop_succ_cons,List.drop_nil,List.take_nil,Nat.le_refl,Nat.reduceMul,List.set_cons_zero,List.set_cons_succ,LV.scalar,List.all_cons,List.all_nil,Nat.lt_add_one,Nat.zero_lt_one,Nat.reduceLT,Nat.lt_irrefl,fillL,List.length_append,foldIntL,kind_beq,pures_int,solids_int,plains_int,unders_int,scalars_int,hki,hu,hm,hsl,hor,a1,a2,a3,a4,hd,hnS,Nat.zero_add,show d + 1 ≤ S by omega,hww,wk,ih]
theorem end1_loop {fs : List Nat} {n : Nat} (nl ex : Bool) (sz : Nat) (hn : n ≤ 7) (hl : fs.length < 1000000) (hfs : ∀ F ∈ fs,F < 256) (A : Nat) (hA : 2 ^ n = A + 1) : ∀ (k : Nat),k ≤ A →
    exF LP style_table_endings.L1 [(1,.ptr 0 0 2),(3,.sl 1 0 (A + 1) (A + 1) 0 1 (A + 1)),(4,.int .i64 ((k : Int) - 1))] (ME' n (UV nl ex sz fs) (Et fs n (A + 1) k)) =
      some (.exit 0,[(3,.sl 1 0 (A + 1) (A + 1) 0 1 (A + 1))],ME' n (UV nl ex sz fs) (Et fs n (A + 1) 0)) := by
  have hA7 : A + 1 ≤ 128 := by
    have : 2 ^ n ≤ 2 ^ 7 := Nat.pow_le_pow_right (by omega) hn
    omega
  intro k
  induction k with
  | zero =>
    intro _
    rw [style_table_endings.L1_eq]
    simp only [style_table_endings.B1,beqT,beqF,exF_seq,exF_region,exF_block,exF_cond,exF_ret,exF_exit,exF_skip,runL,wantL,stepL,evL,evC,LEnv.at,putL,loadFine,loadL,cellsAt,Trk.putNew,Trk.up,Trk.touch,Trk.gives,Trk.calm,Trk.hit,opdsOf,Trk.fresh,LEnv.keep,LEnv.ofFrom,List.map_cons,List.map_nil,nbeq,nble,nblt,ofAV,ofAVs,lenL,bin_add,bin_sub,bin_mul,bin_eql,bin_neq,bin_lss,bin_leq,bin_gtr,bin_geq,natL_nat,natL_zero,natL_one,natL_two,Nat.zero_mul,List.any_cons,List.any_nil,Bool.or_false,Bool.false_or,Bool.true_or,Bool.or_true,Bool.and_true,Bool.true_and,Bool.and_false,Bool.false_and,Bool.not_true,Bool.not_false,Nat.reduceBEq,Nat.reduceEqDiff,decide_true,decide_false,cond_true,cond_false,List.filter_nil,List.filter_cons,Nat.reduceAdd,Nat.reduceLeDiff,reduceCtorEq,List.length_nil,List.length_cons,Nat.mul_one,if_true,if_false,Bool.false_eq_true,eq_self,and_true,true_and,retL,resultsL,resAllL,resOfL,List.append_nil,List.nil_append,List.cons_append,true_or,or_true,false_or,or_false,false_and,and_false,not_true_eq_false,not_false_eq_true,ne_eq,unL,trim_nil,views_pures,LV.pures,LV.pure,freeze,Nat.reduceDiv,Int.reduceEq,Int.reduceLT,Int.reduceLE,Int.natCast_zero,LV.cells,allocL,List.getElem?_cons_zero,List.getElem?_cons_succ,storeL,spliceL,List.take_zero,List.take_succ_cons,List.drop_zero,List.drop_succ_cons,List.drop_nil,List.take_nil,Nat.le_refl,Nat.reduceMul,List.set_cons_zero,List.set_cons_succ,LV.scalar,List.all_cons,List.all_nil,Nat.lt_add_one,Nat.zero_lt_one,Nat.reduceLT,Nat.lt_irrefl,fillL,List.length_append,foldIntL,kind_beq,pures_int,solids_int,plains_int,unders_int,scalars_int,ME',show ¬ ((0 : Int) ≤ (0 : Int) - 1) by omega,show ¬ ((0 : Int) - 1 ≥ (0 : Int)) by omega]
  | succ k ih =>
    intro hk
    have ih := ih (by omega)
    have h1 := end0_loop nl ex sz hn hl hfs (A + 1) hA.symm (Et fs n (A + 1) (k + 1)) (Et_len _ _ _ _) k (by omega) (fun x h1 h2 => Et_at _ _ _ _ _ h2 (by omega)) n 0 0 (by omega) rfl
    rw [← en_eq (mayB fs) n mayB_bit k (by omega),Et_set] at h1
    simp only [Int.natCast_zero,Et_zero] at h1
    have hki : (((k + 1 : Nat) : Int) - 1) = (k : Int) := by omega
    have hw : IntKind.i64.wrap ((k : Int) - 1) = (k : Int) - 1 := wrap_in (by omega)
    rw [style_table_endings.L1_eq]
    simp only [ME'] at h1 ih ⊢
    simp only [style_table_endings.B1,beqT,beqF,exF_seq,exF_region,exF_block,exF_cond,exF_ret,exF_exit,exF_skip,runL,wantL,stepL,evL,evC,LEnv.at,putL,loadFine,loadL,cellsAt,Trk.putNew,Trk.up,Trk.touch,Trk.gives,Trk.calm,Trk.hit,opdsOf,Trk.fresh,LEnv.keep,LEnv.ofFrom,List.map_cons,List.map_nil,nbeq,nble,nblt,ofAV,ofAVs,lenL,bin_add,bin_sub,bin_mul,bin_eql,bin_neq,bin_lss,bin_leq,bin_gtr,bin_geq,natL_nat,natL_zero,natL_one,natL_two,Nat.zero_mul,List.any_cons,List.any_nil,Bool.or_false,Bool.false_or,Bool.true_or,Bool.or_true,Bool.and_true,Bool.true_and,Bool.and_false,Bool.false_and,Bool.not_true,Bool.not_false,Nat.reduceBEq,Nat.reduceEqDiff,decide_true,decide_false,cond_true,cond_false,List.filter_nil,List.filter_cons,Nat.reduceAdd,Nat.reduceLeDiff,reduceCtorEq,List.length_nil,List.length_cons,Nat.mul_one,if_true,if_false,Bool.false_eq_true,eq_self,and_true,true_and,retL,resultsL,resAllL,resOfL,List.append_nil,List.nil_append,List.cons_append,true_or,or_true,false_or,or_false,false_and,and_false,not_true_eq_false,not_false_eq_true,ne_eq,unL,trim_nil,views_pures,LV.pures,LV.pure,freeze,Nat.reduceDiv,Int.reduceEq,Int.reduceLT,Int.reduceLE,Int.natCast_zero,LV.cells,allocL,List.getElem?_cons_zero,List.getElem?_cons_succ,storeL,spliceL,List.take_zero,List.take_succ_cons,List.drop_zero,List.drop_succ_cons,List.drop_nil,List.take_nil,Nat.le_refl,Nat.reduceMul,List.set_cons_zero,List.set_cons_succ,LV.scalar,List.all_cons,List.all_nil,Nat.lt_add_one,Nat.zero_lt_one,Nat.reduceLT,Nat.lt_irrefl,fillL,List.length_append,foldIntL,kind_beq,pures_int,solids_int,plains_int,unders_int,scalars_int,hki,show (0 : Int) ≤ (k : Int) by omega,show (k : Int) ≥ 0 by omega,h1,hw,ih]
theorem endings_c {fs : List Nat} {n : Nat} (nl ex : Bool) (sz : Nat) (hn : n ≤ 7) (hl : fs.length < 1000000) (hfs : ∀ F ∈ fs,F < 256) (m : LMem) :
    clF LP n_style_table_endings [.agg [.int .i64 (n : Int),UV nl ex sz fs]] m = some (.P,IL false true 1 (Et fs n (2 ^ n) 0),m) := by
  obtain ⟨A,hA⟩ : ∃ A,2 ^ n = A + 1 := ⟨2 ^ n - 1,by have := Nat.two_pow_pos n; omega⟩
  have hA7 : A + 1 ≤ 128 := by
    have : 2 ^ n ≤ 2 ^ 7 := Nat.pow_le_pow_right (by omega) hn
    omega
  have h1 := end1_loop nl ex sz hn hl hfs A hA A (Nat.le_refl _)
  rw [hA]
  have hEl := Et_len fs n (A + 1) 0
  have hv : view 100 (ME' n (UV nl ex sz fs) (Et fs n (A + 1) 0)) (.sl 1 0 (A + 1) (A + 1) 0 1 (A + 1)) = some (IL false true 1 (Et fs n (A + 1) 0),[1]) := by
    have := view_sl 97 (ME' n (UV nl ex sz fs) (Et fs n (A + 1) 0)) 1 0 (A + 1) (A + 1) 0 (Et fs n (A + 1) 0) true rfl hEl (by omega) (A + 1) (Nat.le_refl _)
    rw [this,List.drop_zero,List.take_of_length_le (by omega)]
    simp [nbeq]
  refine call_Pv lp_style_table_endings rfl (by simp only [LV.pures,LV.pure,pures_u8s,Bool.and_self]) (m1 := ME' n (UV nl ex sz fs) (Et fs n (A + 1) 0)) ?_ hv m
  have hsl := sshl (i := n) (by omega)
  rw [hA] at hsl
  have hw1 : IntKind.i64.wrap (((A + 1 : Nat) : Int) - 1) = ((A : Nat) : Int) := by rw [wrap_in (by omega)]; omega
  have hw2 : IntKind.i64.wrap (((A + 1 : Nat) : Int) - 2) = (A : Int) - 1 := by rw [wrap_in (by omega)]; omega
  have hst := set_int .i64 (List.replicate (A + 1) 0) A 1 (by simp)
  rw [← Et_top fs n A hA] at hst
  have hzl : ((List.replicate (A + 1) (0 : Int)).map (LV.int .i64)).length = A + 1 := by simp
  simp only [ME'] at h1 ⊢
  simp only [style_table_endings,style_table_endings.B,beqT,beqF,exF_seq,exF_region,exF_block,exF_cond,exF_ret,exF_exit,exF_skip,runL,wantL,stepL,evL,evC,LEnv.at,putL,loadFine,loadL,cellsAt,Trk.putNew,Trk.up,Trk.touch,Trk.gives,Trk.calm,Trk.hit,opdsOf,Trk.fresh,LEnv.keep,LEnv.ofFrom,List.map_cons,List.map_nil,nbeq,nble,nblt,ofAV,ofAVs,lenL,bin_add,bin_sub,bin_mul,bin_eql,bin_neq,bin_lss,bin_leq,bin_gtr,bin_geq,natL_nat,natL_zero,natL_one,natL_two,Nat.zero_mul,List.any_cons,List.any_nil,Bool.or_false,Bool.false_or,Bool.true_or,Bool.or_true,Bool.and_true,Bool.true_and,Bool.and_false,Bool.false_and,Bool.not_true,Bool.not_false,Nat.reduceBEq,Nat.reduceEqDiff,decide_true,decide_false,cond_true,cond_false,List.filter_nil,List.filter_cons,Nat.reduceAdd,Nat.reduceLeDiff,reduceCtorEq,List.length_nil,List.length_cons,Nat.mul_one,if_true,if_false,Bool.false_eq_true,eq_self,and_true,true_and,retL,resultsL,resAllL,resOfL,List.append_nil,List.nil_append,List.cons_append,true_or,or_true,false_or,or_false,false_and,and_false,not_true_eq_false,not_false_eq_true,ne_eq,unL,trim_nil,views_pures,LV.pures,LV.pure,freeze,Nat.reduceDiv,Int.reduceEq,Int.reduceLT,Int.reduceLE,Int.natCast_zero,LV.cells,allocL,List.getElem?_cons_zero,List.getElem?_cons_succ,storeL,spliceL,List.take_zero,List.take_succ_cons,List.drop_zero,List.drop_succ_cons,List.drop_nil,List.take_nil,Nat.le_refl,Nat.reduceMul,List.set_cons_zero,List.set_cons_succ,LV.scalar,List.all_cons,List.all_nil,Nat.lt_add_one,Nat.zero_lt_one,Nat.reduceLT,Nat.lt_irrefl,fillL,List.length_append,foldIntL,kind_beq,pures_int,solids_int,plains_int,unders_int,scalars_int,hsl,zeros_int,hzl,hw1,hw2,hst,show (A + 1) * 8 ≤ roomMost by unfold roomMost; omega,show A + 1 ≤ roomMost by unfold roomMost; omega,Nat.zero_add,h1]
theorem count_c {fs : List Nat} {n : Nat} (nl ex : Bool) (sz : Nat) (hn : n ≤ 7) (hl : fs.length < 1000000) (hfs : ∀ F ∈ fs,F < 256) (m : LMem) :
    clF LP n_style_table_count [.agg [.int .i64 (n : Int),UV nl ex sz fs]] m = some (.P,.int .i64 ((en (mayB fs) n 0 : Nat) : Int),m) := by
  have he := fun m => endings_c (fs := fs) (n := n) nl ex sz hn hl hfs m
  have hp := Nat.two_pow_pos n
  have hat : ((Et fs n (2 ^ n) 0).map (LV.int .i64))[0]? = some (.int .i64 ((en (mayB fs) n 0 : Nat) : Int)) := by
    rw [List.getElem?_map,Et_at fs n (2 ^ n) 0 0 hp (Nat.le_refl _)]; rfl
  refine call_P lp_style_table_count rfl (by simp only [LV.pures,LV.pure,pures_u8s,Bool.and_self]) (m1 := [⟨[.int .i64 (n : Int),UV nl ex sz fs],true⟩]) ?_ rfl m
  have hlen := Et_len fs n (2 ^ n) 0
  simp only [style_table_count,style_table_count.B,beqT,beqF,exF_seq,exF_region,exF_block,exF_cond,exF_ret,exF_exit,exF_skip,runL,wantL,stepL,evL,evC,LEnv.at,putL,loadFine,loadL,cellsAt,Trk.putNew,Trk.up,Trk.touch,Trk.gives,Trk.calm,Trk.hit,opdsOf,Trk.fresh,LEnv.keep,LEnv.ofFrom,List.map_cons,List.map_nil,nbeq,nble,nblt,ofAV,ofAVs,lenL,bin_add,bin_sub,bin_mul,bin_eql,bin_neq,bin_lss,bin_leq,bin_gtr,bin_geq,natL_nat,natL_zero,natL_one,natL_two,Nat.zero_mul,List.any_cons,List.any_nil,Bool.or_false,Bool.false_or,Bool.true_or,Bool.or_true,Bool.and_true,Bool.true_and,Bool.and_false,Bool.false_and,Bool.not_true,Bool.not_false,Nat.reduceBEq,Nat.reduceEqDiff,decide_true,decide_false,cond_true,cond_false,List.filter_nil,List.filter_cons,Nat.reduceAdd,Nat.reduceLeDiff,reduceCtorEq,List.length_nil,List.length_cons,Nat.mul_one,if_true,if_false,Bool.false_eq_true,eq_self,and_true,true_and,retL,resultsL,resAllL,resOfL,List.append_nil,List.nil_append,List.cons_append,true_or,or_true,false_or,or_false,false_and,and_false,not_true_eq_false,not_false_eq_true,ne_eq,unL,trim_nil,views_pures,LV.pures,LV.pure,freeze,Nat.reduceDiv,Int.reduceEq,Int.reduceLT,Int.reduceLE,Int.natCast_zero,LV.cells,allocL,List.getElem?_cons_zero,List.getElem?_cons_succ,storeL,spliceL,List.take_zero,List.take_succ_cons,List.drop_zero,List.drop_succ_cons,List.drop_nil,List.take_nil,Nat.le_refl,Nat.reduceMul,List.set_cons_zero,List.set_cons_succ,LV.scalar,List.all_cons,List.all_nil,Nat.lt_add_one,Nat.zero_lt_one,Nat.reduceLT,Nat.lt_irrefl,fillL,List.length_append,foldIntL,kind_beq,pures_int,solids_int,plains_int,unders_int,scalars_int,he,hlen,hp,hat]
theorem Count_c (n : Nat) (R : List (List Nat)) (F : Fms n R) (nl ex : Bool) (sz : Nat) (m : LMem) :
    clF LP n_style_Count [.agg [.int .i64 (n : Int),RF nl ex sz R]] m = some (.P,.tup [.int .i64 ((en (mayB (sets R)) n 0 : Nat) : Int),.int .i64 0],m) := by
  have ho := fun m => opened_c n R F nl ex sz m
  have hp : 2 ^ n ≤ 2 ^ 7 := Nat.pow_le_pow_right (by omega) F.nb.2
  have hc := fun a b c m => count_c (fs := sets R) (n := n) a b c F.nb.2 (by have := F.few; simp [sets]; omega) (fun G hG => by
    obtain ⟨l,hl,rfl⟩ := List.mem_map.1 hG
    have := bitsL_lt l n (F.lt l hl)
    omega) m
  refine call_P lp_style_Count rfl (by simp [LV.pures,LV.pure,pures_rows]) (m1 := [⟨[.int .i64 (n : Int),RF nl ex sz R],true⟩,⟨[.int .i64 (n : Int),RU (sets R)],true⟩]) ?_ rfl m
  simp only [style_Count,style_Count.B,beqT,beqF,exF_seq,exF_region,exF_block,exF_cond,exF_ret,exF_exit,exF_skip,runL,wantL,stepL,evL,evC,LEnv.at,putL,loadFine,loadL,cellsAt,Trk.putNew,Trk.up,Trk.touch,Trk.gives,Trk.calm,Trk.hit,opdsOf,Trk.fresh,LEnv.keep,LEnv.ofFrom,List.map_cons,List.map_nil,nbeq,nble,nblt,ofAV,ofAVs,lenL,bin_add,bin_sub,bin_mul,bin_eql,bin_neq,bin_lss,bin_leq,bin_gtr,bin_geq,natL_nat,natL_zero,natL_one,natL_two,Nat.zero_mul,List.any_cons,List.any_nil,Bool.or_false,Bool.false_or,Bool.true_or,Bool.or_true,Bool.and_true,Bool.true_and,Bool.and_false,Bool.false_and,Bool.not_true,Bool.not_false,Nat.reduceBEq,Nat.reduceEqDiff,decide_true,decide_false,cond_true,cond_false,List.filter_nil,List.filter_cons,Nat.reduceAdd,Nat.reduceLeDiff,reduceCtorEq,List.length_nil,List.length_cons,Nat.mul_one,if_true,if_false,Bool.false_eq_true,eq_self,and_true,true_and,retL,resultsL,resAllL,resOfL,List.append_nil,List.nil_append,List.cons_append,true_or,or_true,false_or,or_false,false_and,and_false,not_true_eq_false,not_false_eq_true,ne_eq,unL,trim_nil,views_pures,LV.pures,LV.pure,freeze,Nat.reduceDiv,Int.reduceEq,Int.reduceLT,Int.reduceLE,Int.natCast_zero,LV.cells,allocL,List.getElem?_cons_zero,List.getElem?_cons_succ,storeL,spliceL,List.take_zero,List.take_succ_cons,List.drop_zero,List.drop_succ_cons,List.drop_nil,List.take_nil,Nat.le_refl,Nat.reduceMul,List.set_cons_zero,List.set_cons_succ,LV.scalar,List.all_cons,List.all_nil,Nat.lt_add_one,Nat.zero_lt_one,Nat.reduceLT,Nat.lt_irrefl,fillL,List.length_append,foldIntL,kind_beq,pures_int,solids_int,plains_int,unders_int,scalars_int,ho,hc]
theorem Why_c (n : Nat) (R : List (List Nat)) (F : Fms n R) (h : 0 < en (mayB (sets R)) n 0) (nl ex : Bool) (sz : Nat) (m : LMem) :
    clF LP n_style_Why [.agg [.int .i64 (n : Int),RF nl ex sz R]] m = some (.P,.tup [.int .i64 0,.int .i64 0,.int .i64 0,.int .i64 13],m) := by
  have ho := fun m => opened_c n R F nl ex sz m
  have hp : 2 ^ n ≤ 2 ^ 7 := Nat.pow_le_pow_right (by omega) F.nb.2
  have hc := fun a b c m => count_c (fs := sets R) (n := n) a b c F.nb.2 (by have := F.few; simp [sets]; omega) (fun G hG => by
    obtain ⟨l,hl,rfl⟩ := List.mem_map.1 hG
    have := bitsL_lt l n (F.lt l hl)
    omega) m
  refine call_P lp_style_Why rfl (by simp [LV.pures,LV.pure,pures_rows]) (m1 := [⟨[.int .i64 (n : Int),RF nl ex sz R],true⟩,⟨[.int .i64 (n : Int),RU (sets R)],true⟩]) ?_ rfl m
  simp only [style_Why,style_Why.B,beqT,beqF,exF_seq,exF_region,exF_block,exF_cond,exF_ret,exF_exit,exF_skip,runL,wantL,stepL,evL,evC,LEnv.at,putL,loadFine,loadL,cellsAt,Trk.putNew,Trk.up,Trk.touch,Trk.gives,Trk.calm,Trk.hit,opdsOf,Trk.fresh,LEnv.keep,LEnv.ofFrom,List.map_cons,List.map_nil,nbeq,nble,nblt,ofAV,ofAVs,lenL,bin_add,bin_sub,bin_mul,bin_eql,bin_neq,bin_lss,bin_leq,bin_gtr,bin_geq,natL_nat,natL_zero,natL_one,natL_two,Nat.zero_mul,List.any_cons,List.any_nil,Bool.or_false,Bool.false_or,Bool.true_or,Bool.or_true,Bool.and_true,Bool.true_and,Bool.and_false,Bool.false_and,Bool.not_true,Bool.not_false,Nat.reduceBEq,Nat.reduceEqDiff,decide_true,decide_false,cond_true,cond_false,List.filter_nil,List.filter_cons,Nat.reduceAdd,Nat.reduceLeDiff,reduceCtorEq,List.length_nil,List.length_cons,Nat.mul_one,if_true,if_false,Bool.false_eq_true,eq_self,and_true,true_and,retL,resultsL,resAllL,resOfL,List.append_nil,List.nil_append,List.cons_append,true_or,or_true,false_or,or_false,false_and,and_false,not_true_eq_false,not_false_eq_true,ne_eq,unL,trim_nil,views_pures,LV.pures,LV.pure,freeze,Nat.reduceDiv,Int.reduceEq,Int.reduceLT,Int.reduceLE,Int.natCast_zero,LV.cells,allocL,List.getElem?_cons_zero,List.getElem?_cons_succ,storeL,spliceL,List.take_zero,List.take_succ_cons,List.drop_zero,List.drop_succ_cons,List.drop_nil,List.take_nil,Nat.le_refl,Nat.reduceMul,List.set_cons_zero,List.set_cons_succ,LV.scalar,List.all_cons,List.all_nil,Nat.lt_add_one,Nat.zero_lt_one,Nat.reduceLT,Nat.lt_irrefl,fillL,List.length_append,foldIntL,kind_beq,pures_int,solids_int,plains_int,unders_int,scalars_int,ho,hc,show ((en (mayB (sets R)) n 0 : Nat) : Int) > 0 by omega,show (0 : Int) < ((en (mayB (sets R)) n 0 : Nat) : Int) by omega]
end Go.Am.Top
set_option linter.unusedVariables false
set_option linter.unusedSimpArgs false
set_option maxRecDepth 10000
namespace Go.Am.Top
open Go.Am.G
theorem repeat_run : ∀ (L : Nat),L ≤ 7 → exF LP slices_Repeat_int_int.B (LEnv.ofFrom 0 [.lst false true 1 1 [.int .i64 (-1)],.int .i64 (L : Int)]) [] = some (.ret,[(4,.sl 0 0 L L 0 1 L)],[⟨(List.replicate L (-1 : Int)).map (LV.int .i64),true⟩])
  | 0,_ => exF_some.2 ⟨100,by kernel_rfl⟩
  | 1,_ => exF_some.2 ⟨100,by kernel_rfl⟩
  | 2,_ => exF_some.2 ⟨100,by kernel_rfl⟩
  | 3,_ => exF_some.2 ⟨100,by kernel_rfl⟩
  | 4,_ => exF_some.2 ⟨100,by kernel_rfl⟩
  | 5,_ => exF_some.2 ⟨100,by kernel_rfl⟩
  | 6,_ => exF_some.2 ⟨100,by kernel_rfl⟩
  | 7,_ => exF_some.2 ⟨100,by kernel_rfl⟩
  | n + 8,h => absurd h (by omega)
theorem repeat_c (L : Nat) (h : L ≤ 7) (m : LMem) : clF LP n_slices_Repeat_int_int [.lst false true 1 1 [.int .i64 (-1)],.int .i64 (L : Int)] m = some (.O,.sl m.length 0 L L 0 1 L,m ++ [⟨(List.replicate L (-1 : Int)).map (LV.int .i64),true⟩]) := by
  rw [call_O lp_slices_Repeat_int_int rfl (by simp [LV.pures,LV.pure]) (v := .sl 0 0 L L 0 1 L) (m1 := [⟨(List.replicate L (-1 : Int)).map (LV.int .i64),true⟩]) (by simp only [slices_Repeat_int_int,repeat_run L h]; rfl) m]
  have e : LV.shifts m.length ((List.replicate L (-1 : Int)).map (LV.int .i64)) = (List.replicate L (-1 : Int)).map (LV.int .i64) := shifts_int _ _ _
  simp only [LV.shift,List.map_cons,List.map_nil,e,Nat.zero_add,Nat.add_zero]
def plk (o : List Nat) (n k : Nat) : List Int := (List.range n).map fun x => if o.idxOf x < k then ((o.idxOf x : Nat) : Int) else -1
theorem plk_len (o : List Nat) (n k : Nat) : (plk o n k).length = n := by simp [plk]
theorem plk_zero (o : List Nat) (n : Nat) : plk o n 0 = List.replicate n (-1) := by
  apply List.ext_getElem?
  intro i
  by_cases h : i < n <;> simp [plk,h]
theorem plk_set (o : List Nat) (n k : Nat) (hk : k < o.length) (hn : o.Nodup) (hx : o[k] < n) : (plk o n k).set o[k] (k : Int) = plk o n (k + 1) := by
  have hid := hn.idxOf_getElem k hk
  apply List.ext_getElem?
  intro i
  rw [List.getElem?_set,plk_len]
  by_cases c : o[k] = i
  · rw [if_pos c,if_pos (by omega)]
    subst c
    simp [plk,hx,hid]
  · rw [if_neg c]
    by_cases hi : i < n
    · have hne : o.idxOf i ≠ k := by
        intro e
        apply c
        have h2 : o.idxOf i < o.length := by omega
        have := List.getElem_idxOf h2
        simp only [e] at this
        exact this
      simp only [plk,List.getElem?_map,List.getElem?_range hi,Option.map_some]
      congr 1
      by_cases q : o.idxOf i < k
      · rw [if_pos q,if_pos (by omega)]
      · rw [if_neg q,if_neg (by omega)]
    · rw [List.getElem?_eq_none (by rw [plk_len]; omega),List.getElem?_eq_none (by rw [plk_len]; omega)]
structure Ord (n : Nat) (o : List Nat) : Prop where
  len : o.length = n
  nd : o.Nodup
  lt : ∀ x ∈ o,x < n
theorem Ord.mem {n : Nat} {o : List Nat} (O : Ord n o) {x : Nat} (hx : x < n) : x ∈ o := by
  refine Classical.byContradiction fun h => ?_
  have h1 : (x :: o).Nodup := List.nodup_cons.2 ⟨h,O.nd⟩
  have h2 : (x :: o).length ≤ (List.range n).length := List.Nodup.length_le_of_subset h1 fun y hy => by
    rcases List.mem_cons.1 hy with rfl | hy
    · exact List.mem_range.2 hx
    · exact List.mem_range.2 (O.lt y hy)
  simp [O.len] at h2
  omega
abbrev plN (o : List Nat) (n : Nat) : List Nat := (List.range n).map fun x => o.idxOf x
theorem plk_all {n : Nat} {o : List Nat} (O : Ord n o) : plk o n n = ci (plN o n) := by
  unfold plk
  rw [ci,plN,List.map_map]
  apply List.map_congr_left
  intro x hx
  have := List.idxOf_lt_length_of_mem (O.mem (List.mem_range.1 hx))
  rw [O.len] at this
  rw [if_pos this]; rfl
theorem place_loop {n : Nat} {o : List Nat} (O : Ord n o) (hn : n ≤ 7) (V : LV) (nl ex : Bool) (sz : Nat) (t : Nat) : ∀ k,k + t = n →
    exF LP style_table_places.L0 [(2,.ptr 0 0 2),(6,.sl 1 0 n n 0 1 n),(18,IL nl ex sz (ci o)),(19,.int .i64 (n : Int)),(20,.int .i64 (k : Int))] [⟨[.int .i64 (n : Int),V],true⟩,⟨(plk o n k).map (LV.int .i64),true⟩] =
      some (.exit 0,[(6,.sl 1 0 n n 0 1 n)],[⟨[.int .i64 (n : Int),V],true⟩,⟨(plk o n n).map (LV.int .i64),true⟩]) := by
  have hl := O.len
  induction t with
  | zero =>
    intro k hk
    obtain rfl : k = n := by omega
    rw [style_table_places.L0_eq]
    simp only [style_table_places.B0,beqT,beqF,exF_seq,exF_region,exF_block,exF_cond,exF_ret,exF_exit,exF_skip,runL,wantL,stepL,evL,evC,LEnv.at,putL,loadFine,loadL,cellsAt,Trk.putNew,Trk.up,Trk.touch,Trk.gives,Trk.calm,Trk.hit,opdsOf,Trk.fresh,LEnv.keep,LEnv.ofFrom,List.map_cons,List.map_nil,nbeq,nble,nblt,ofAV,ofAVs,lenL,bin_add,bin_sub,bin_mul,bin_eql,bin_neq,bin_lss,bin_leq,bin_gtr,bin_geq,natL_nat,natL_zero,natL_one,natL_two,Nat.zero_mul,List.any_cons,List.any_nil,Bool.or_false,Bool.false_or,Bool.true_or,Bool.or_true,Bool.and_true,Bool.true_and,Bool.and_false,Bool.false_and,Bool.not_true,Bool.not_false,Nat.reduceBEq,Nat.reduceEqDiff,decide_true,decide_false,cond_true,cond_false,List.filter_nil,List.filter_cons,Nat.reduceAdd,Nat.reduceLeDiff,reduceCtorEq,List.length_nil,List.length_cons,Nat.mul_one,if_true,if_false,Bool.false_eq_true,eq_self,and_true,true_and,retL,resultsL,resAllL,resOfL,List.append_nil,List.nil_append,List.cons_append,true_or,or_true,false_or,or_false,false_and,and_false,not_true_eq_false,not_false_eq_true,ne_eq,unL,trim_nil,views_pures,LV.pures,LV.pure,freeze,Nat.reduceDiv,Int.reduceEq,Int.reduceLT,Int.reduceLE,Int.natCast_zero,LV.cells,allocL,List.getElem?_cons_zero,List.getElem?_cons_succ,storeL,spliceL,List.take_zero,List.take_succ_cons,List.drop_zero,List.drop_succ_cons,List.drop_nil,List.take_nil,Nat.le_refl,Nat.reduceMul,List.set_cons_zero,List.set_cons_succ,LV.scalar,List.all_cons,List.all_nil,Nat.lt_add_one,Nat.zero_lt_one,Nat.reduceLT,Nat.lt_irrefl,fillL,List.length_append,foldIntL,kind_beq,pures_int,solids_int,plains_int,unders_int,scalars_int,Int.lt_irrefl]
  | succ t ih =>
    intro k hk
    have h2 : k < o.length := by omega
    have ih := ih (k + 1) (by omega)
    have hx := O.lt _ (List.getElem_mem h2)
    have hat := ci_at o k h2
    have hst := set_int .i64 (plk o n k) o[k] (k : Int) (by rw [plk_len]; exact hx)
    rw [plk_set o n k h2 O.nd hx] at hst
    have hid := O.nd.idxOf_getElem k h2
    have hold : ((plk o n k).map (LV.int .i64))[o[k]]? = some (.int .i64 (-1)) := by
      rw [List.getElem?_map]
      simp [plk,hx,hid]
    have hpl : ((plk o n k).map (LV.int .i64)).length = n := by rw [List.length_map,plk_len]
    have wk := wrap_succ (show k + 1 < 9223372036854775808 by omega)
    generalize o[k] = x at *
    rw [style_table_places.L0_eq]
    simp only [style_table_places.B0,beqT,beqF,exF_seq,exF_region,exF_block,exF_cond,exF_ret,exF_exit,exF_skip,runL,wantL,stepL,evL,evC,LEnv.at,putL,loadFine,loadL,cellsAt,Trk.putNew,Trk.up,Trk.touch,Trk.gives,Trk.calm,Trk.hit,opdsOf,Trk.fresh,LEnv.keep,LEnv.ofFrom,List.map_cons,List.map_nil,nbeq,nble,nblt,ofAV,ofAVs,lenL,bin_add,bin_sub,bin_mul,bin_eql,bin_neq,bin_lss,bin_leq,bin_gtr,bin_geq,natL_nat,natL_zero,natL_one,natL_two,Nat.zero_mul,List.any_cons,List.any_nil,Bool.or_false,Bool.false_or,Bool.true_or,Bool.or_true,Bool.and_true,Bool.true_and,Bool.and_false,Bool.false_and,Bool.not_true,Bool.not_false,Nat.reduceBEq,Nat.reduceEqDiff,decide_true,decide_false,cond_true,cond_false,List.filter_nil,List.filter_cons,Nat.reduceAdd,Nat.reduceLeDiff,reduceCtorEq,List.length_nil,List.length_cons,Nat.mul_one,if_true,if_false,Bool.false_eq_true,eq_self,and_true,true_and,retL,resultsL,resAllL,resOfL,List.append_nil,List.nil_append,List.cons_append,true_or,or_true,false_or,or_false,false_and,and_false,not_true_eq_false,not_false_eq_true,ne_eq,unL,trim_nil,views_pures,LV.pures,LV.pure,freeze,Nat.reduceDiv,Int.reduceEq,Int.reduceLT,Int.reduceLE,Int.natCast_zero,LV.cells,allocL,List.getElem?_cons_zero,List.getElem?_cons_succ,storeL,spliceL,List.take_zero,List.take_succ_cons,List.drop_zero,List.drop_succ_cons,List.drop_nil,List.take_nil,Nat.le_refl,Nat.reduceMul,List.set_cons_zero,List.set_cons_succ,LV.scalar,List.all_cons,List.all_nil,Nat.lt_add_one,Nat.zero_lt_one,Nat.reduceLT,Nat.lt_irrefl,fillL,List.length_append,foldIntL,kind_beq,pures_int,solids_int,plains_int,unders_int,scalars_int,show (k : Int) < (n : Int) by omega,hl,List.length_map,show k < n by omega,hat,show ¬ ((x : Int) < 0) by omega,show ¬ ((x : Int) ≥ (n : Int)) by omega,show ¬ ((n : Int) ≤ (x : Int)) by omega,hx,hold,show ¬ ((-1 : Int) ≥ 0) by omega,show ¬ ((0 : Int) ≤ -1) by omega,Nat.zero_add,plk_len,show x + 1 ≤ n by omega,hst,wk,ih]
theorem places_c {n : Nat} {o : List Nat} (O : Ord n o) (hn : n ≤ 7) (vl ve : Bool) (vz : Nat) (fs : List Nat) (nl ex : Bool) (sz : Nat) (m : LMem) :
    clF LP n_style_table_places [.agg [.int .i64 (n : Int),UV vl ve vz fs],IL nl ex sz (ci o)] m = some (.P,.tup [IL false true 1 (ci (plN o n)),.int .i64 0],m) := by
  have hl := O.len
  have h1 := place_loop O hn (UV vl ve vz fs) nl ex sz n 0 (by omega)
  rw [plk_zero,plk_all O] at h1
  simp only [Int.natCast_zero] at h1
  have hr := fun m => repeat_c n hn m
  have hv : view 100 [⟨[.int .i64 (n : Int),UV vl ve vz fs],true⟩,⟨(ci (plN o n)).map (LV.int .i64),true⟩] (.tup [.sl 1 0 n n 0 1 n,.int .i64 0]) = some (.tup [IL false true 1 (ci (plN o n)),.int .i64 0],[1]) := by
    refine view_tup2 _ _ _ _ _ (fun k => ?_) rfl (by simp [LV.pures,LV.pure])
    have := view_sl k [⟨[.int .i64 (n : Int),UV vl ve vz fs],true⟩,⟨(ci (plN o n)).map (LV.int .i64),true⟩] 1 0 n n 0 (ci (plN o n)) true rfl (by simp) (by omega) n (Nat.le_refl _)
    rw [this,List.drop_zero,List.take_of_length_le (by simp)]
    simp [nbeq]
  refine call_Pv lp_style_table_places rfl (by simp only [LV.pures,LV.pure,pures_u8s,pures_int,Bool.and_self]) (m1 := [⟨[.int .i64 (n : Int),UV vl ve vz fs],true⟩,⟨(ci (plN o n)).map (LV.int .i64),true⟩]) ?_ hv m
  simp only [style_table_places,style_table_places.B,beqT,beqF,exF_seq,exF_region,exF_block,exF_cond,exF_ret,exF_exit,exF_skip,runL,wantL,stepL,evL,evC,LEnv.at,putL,loadFine,loadL,cellsAt,Trk.putNew,Trk.up,Trk.touch,Trk.gives,Trk.calm,Trk.hit,opdsOf,Trk.fresh,LEnv.keep,LEnv.ofFrom,List.map_cons,List.map_nil,nbeq,nble,nblt,ofAV,ofAVs,lenL,bin_add,bin_sub,bin_mul,bin_eql,bin_neq,bin_lss,bin_leq,bin_gtr,bin_geq,natL_nat,natL_zero,natL_one,natL_two,Nat.zero_mul,List.any_cons,List.any_nil,Bool.or_false,Bool.false_or,Bool.true_or,Bool.or_true,Bool.and_true,Bool.true_and,Bool.and_false,Bool.false_and,Bool.not_true,Bool.not_false,Nat.reduceBEq,Nat.reduceEqDiff,decide_true,decide_false,cond_true,cond_false,List.filter_nil,List.filter_cons,Nat.reduceAdd,Nat.reduceLeDiff,reduceCtorEq,List.length_nil,List.length_cons,Nat.mul_one,if_true,if_false,Bool.false_eq_true,eq_self,and_true,true_and,retL,resultsL,resAllL,resOfL,List.append_nil,List.nil_append,List.cons_append,true_or,or_true,false_or,or_false,false_and,and_false,not_true_eq_false,not_false_eq_true,ne_eq,unL,trim_nil,views_pures,LV.pures,LV.pure,freeze,Nat.reduceDiv,Int.reduceEq,Int.reduceLT,Int.reduceLE,Int.natCast_zero,LV.cells,allocL,List.getElem?_cons_zero,List.getElem?_cons_succ,storeL,spliceL,List.take_zero,List.take_succ_cons,List.drop_zero,List.drop_succ_cons,List.drop_nil,List.take_nil,Nat.le_refl,Nat.reduceMul,List.set_cons_zero,List.set_cons_succ,LV.scalar,List.all_cons,List.all_nil,Nat.lt_add_one,Nat.zero_lt_one,Nat.reduceLT,Nat.lt_irrefl,fillL,List.length_append,foldIntL,kind_beq,pures_int,solids_int,plains_int,unders_int,scalars_int,hl,List.length_map,hr,h1]
end Go.Am.Top
