import Derived.Test.YtoppeojgadbjeaaTopC6
set_option linter.unusedVariables false
set_option linter.unusedSimpArgs false
set_option maxRecDepth 10000
namespace Go.Am.Top
open Go.Am.G
theorem with_c {s i : Nat} (hs : s < 256) (hi : i < 8) (m : LMem) : clF LP n_style_set_with [.int .u8 (s : Int),.int .i64 (i : Int)] m = some (.P,.int .u8 ((s ||| 2 ^ i : Nat) : Int),m) := by
  have h1 := u8shl hi
  have h3 : (2 : Nat) ^ i < 2 ^ 8 := Nat.pow_lt_pow_right (by omega) hi
  have h2 := u8or hs (show 2 ^ i < 256 by omega)
  refine call_P lp_style_set_with rfl (by simp [LV.pures,LV.pure]) (m1 := []) ?_ rfl m
  simp only [style_set_with,style_set_with.B,beqT,beqF,exF_seq,exF_region,exF_block,exF_cond,exF_ret,exF_exit,exF_skip,runL,wantL,stepL,evL,evC,LEnv.at,putL,loadFine,loadL,cellsAt,Trk.putNew,Trk.up,Trk.touch,Trk.gives,Trk.calm,Trk.hit,opdsOf,Trk.fresh,LEnv.keep,LEnv.ofFrom,List.map_cons,List.map_nil,nbeq,nble,nblt,ofAV,ofAVs,lenL,bin_add,bin_sub,bin_mul,bin_eql,bin_neq,bin_lss,bin_leq,bin_gtr,bin_geq,natL_nat,natL_zero,natL_one,natL_two,Nat.zero_mul,List.any_cons,List.any_nil,Bool.or_false,Bool.false_or,Bool.true_or,Bool.or_true,Bool.and_true,Bool.true_and,Bool.and_false,Bool.false_and,Bool.not_true,Bool.not_false,Nat.reduceBEq,Nat.reduceEqDiff,decide_true,decide_false,cond_true,cond_false,List.filter_nil,List.filter_cons,Nat.reduceAdd,Nat.reduceLeDiff,reduceCtorEq,List.length_nil,List.length_cons,Nat.mul_one,if_true,if_false,Bool.false_eq_true,eq_self,and_true,true_and,retL,resultsL,resAllL,resOfL,List.append_nil,List.nil_append,List.cons_append,true_or,or_true,false_or,or_false,false_and,and_false,not_true_eq_false,not_false_eq_true,ne_eq,unL,trim_nil,views_pures,LV.pures,LV.pure,freeze,Nat.reduceDiv,Int.reduceEq,Int.reduceLT,Int.reduceLE,Int.natCast_zero,LV.cells,allocL,List.getElem?_cons_zero,List.getElem?_cons_succ,storeL,spliceL,List.take_zero,List.take_succ_cons,List.drop_zero,List.drop_succ_cons,List.drop_nil,List.take_nil,Nat.le_refl,Nat.reduceMul,List.set_cons_zero,List.set_cons_succ,LV.scalar,List.all_cons,List.all_nil,Nat.lt_add_one,Nat.zero_lt_one,Nat.reduceLT,Nat.lt_irrefl,fillL,List.length_append,foldIntL,kind_beq,pures_int,solids_int,plains_int,unders_int,scalars_int,h1,h2]
theorem has_c {s i : Nat} (hs : s < 256) (hi : i < 8) (m : LMem) : clF LP n_style_set_has [.int .u8 (s : Int),.int .i64 (i : Int)] m = some (.P,.bool (s.testBit i),m) := by
  have h1 := u8shr (a := s) hi
  have h2 := u8and1 (a := s / 2 ^ i) (Nat.lt_of_le_of_lt (Nat.div_le_self _ _) hs)
  refine call_P lp_style_set_has rfl (by simp [LV.pures,LV.pure]) (m1 := []) ?_ rfl m
  have hb := bit_mod s i
  cases ht : s.testBit i
  · rw [ht] at hb
    simp only [style_set_has,style_set_has.B,beqT,beqF,exF_seq,exF_region,exF_block,exF_cond,exF_ret,exF_exit,exF_skip,runL,wantL,stepL,evL,evC,LEnv.at,putL,loadFine,loadL,cellsAt,Trk.putNew,Trk.up,Trk.touch,Trk.gives,Trk.calm,Trk.hit,opdsOf,Trk.fresh,LEnv.keep,LEnv.ofFrom,List.map_cons,List.map_nil,nbeq,nble,nblt,ofAV,ofAVs,lenL,bin_add,bin_sub,bin_mul,bin_eql,bin_neq,bin_lss,bin_leq,bin_gtr,bin_geq,natL_nat,natL_zero,natL_one,natL_two,Nat.zero_mul,List.any_cons,List.any_nil,Bool.or_false,Bool.false_or,Bool.true_or,Bool.or_true,Bool.and_true,Bool.true_and,Bool.and_false,Bool.false_and,Bool.not_true,Bool.not_false,Nat.reduceBEq,Nat.reduceEqDiff,decide_true,decide_false,cond_true,cond_false,List.filter_nil,List.filter_cons,Nat.reduceAdd,Nat.reduceLeDiff,reduceCtorEq,List.length_nil,List.length_cons,Nat.mul_one,if_true,if_false,Bool.false_eq_true,eq_self,and_true,true_and,retL,resultsL,resAllL,resOfL,List.append_nil,List.nil_append,List.cons_append,true_or,or_true,false_or,or_false,false_and,and_false,not_true_eq_false,not_false_eq_true,ne_eq,unL,trim_nil,views_pures,LV.pures,LV.pure,freeze,Nat.reduceDiv,Int.reduceEq,Int.reduceLT,Int.reduceLE,Int.natCast_zero,LV.cells,allocL,List.getElem?_cons_zero,List.getElem?_cons_succ,storeL,spliceL,List.take_zero,List.take_succ_cons,List.drop_zero,List.drop_succ_cons,List.drop_nil,List.take_nil,Nat.le_refl,Nat.reduceMul,List.set_cons_zero,List.set_cons_succ,LV.scalar,List.all_cons,List.all_nil,Nat.lt_add_one,Nat.zero_lt_one,Nat.reduceLT,Nat.lt_irrefl,fillL,List.length_append,foldIntL,kind_beq,pures_int,solids_int,plains_int,unders_int,scalars_int,h1,h2,hb]
    try rfl
  · rw [ht] at hb
    simp only [style_set_has,style_set_has.B,beqT,beqF,exF_seq,exF_region,exF_block,exF_cond,exF_ret,exF_exit,exF_skip,runL,wantL,stepL,evL,evC,LEnv.at,putL,loadFine,loadL,cellsAt,Trk.putNew,Trk.up,Trk.touch,Trk.gives,Trk.calm,Trk.hit,opdsOf,Trk.fresh,LEnv.keep,LEnv.ofFrom,List.map_cons,List.map_nil,nbeq,nble,nblt,ofAV,ofAVs,lenL,bin_add,bin_sub,bin_mul,bin_eql,bin_neq,bin_lss,bin_leq,bin_gtr,bin_geq,natL_nat,natL_zero,natL_one,natL_two,Nat.zero_mul,List.any_cons,List.any_nil,Bool.or_false,Bool.false_or,Bool.true_or,Bool.or_true,Bool.and_true,Bool.true_and,Bool.and_false,Bool.false_and,Bool.not_true,Bool.not_false,Nat.reduceBEq,Nat.reduceEqDiff,decide_true,decide_false,cond_true,cond_false,List.filter_nil,List.filter_cons,Nat.reduceAdd,Nat.reduceLeDiff,reduceCtorEq,List.length_nil,List.length_cons,Nat.mul_one,if_true,if_false,Bool.false_eq_true,eq_self,and_true,true_and,retL,resultsL,resAllL,resOfL,List.append_nil,List.nil_append,List.cons_append,true_or,or_true,false_or,or_false,false_and,and_false,not_true_eq_false,not_false_eq_true,ne_eq,unL,trim_nil,views_pures,LV.pures,LV.pure,freeze,Nat.reduceDiv,Int.reduceEq,Int.reduceLT,Int.reduceLE,Int.natCast_zero,LV.cells,allocL,List.getElem?_cons_zero,List.getElem?_cons_succ,storeL,spliceL,List.take_zero,List.take_succ_cons,List.drop_zero,List.drop_succ_cons,List.drop_nil,List.take_nil,Nat.le_refl,Nat.reduceMul,List.set_cons_zero,List.set_cons_succ,LV.scalar,List.all_cons,List.all_nil,Nat.lt_add_one,Nat.zero_lt_one,Nat.reduceLT,Nat.lt_irrefl,fillL,List.length_append,foldIntL,kind_beq,pures_int,solids_int,plains_int,unders_int,scalars_int,h1,h2,hb]
    try rfl
def bitsL (l : List Nat) : Nat := l.foldl (fun s x => s ||| 2 ^ x) 0
theorem bitsL_snoc (l : List Nat) (x : Nat) : bitsL (l ++ [x]) = bitsL l ||| 2 ^ x := by simp [bitsL]
theorem bitsF (i : Nat) : ∀ (l : List Nat) (s : Nat),(l.foldl (fun s x => s ||| 2 ^ x) s).testBit i = (s.testBit i || decide (i ∈ l))
  | [],s => by simp
  | x :: l,s => by
    rw [List.foldl_cons,bitsF i l,or_bit]
    by_cases c : x = i
    · subst c; simp
    · simp [c,Ne.symm c,show ¬ i = x from fun h => c h.symm]
theorem bitsL_bit (l : List Nat) (i : Nat) : (bitsL l).testBit i = decide (i ∈ l) := by
  unfold bitsL
  rw [bitsF]; simp
theorem bitsL_lt (l : List Nat) (n : Nat) (h : ∀ x ∈ l,x < n) : bitsL l < 2 ^ n := by
  refine Nat.lt_pow_two_of_testBit _ fun i hi => ?_
  rw [bitsL_bit,decide_eq_false_iff_not]
  intro c
  have := h i c
  omega
structure Fms (n : Nat) (R : List (List Nat)) : Prop where
  nb : 1 ≤ n ∧ n ≤ 7
  few : R.length ≤ 10
  ne : ∀ l ∈ R,l ≠ []
  lt : ∀ l ∈ R,∀ x ∈ l,x < n
  asc : ∀ l ∈ R,∀ i (h : i + 1 < l.length),l[i] < l[i + 1]
abbrev u8s (fs : List Nat) : List LV := fs.map fun x : Nat => LV.int .u8 (x : Int)
theorem pures_u8s (fs : List Nat) : LV.pures (u8s fs) = true := by
  induction fs with
  | nil => rfl
  | cons a l ih => simp only [u8s] at ih; simp [LV.pures,LV.pure,ih]
def lastI (l : List Nat) (j : Nat) : Int := if j = 0 then -1 else ((l.getD (j - 1) 0 : Nat) : Int)
theorem ci_at (l : List Nat) (k : Nat) (h : k < l.length) : ((ci l).map (LV.int .i64))[k]? = some (.int .i64 ((l[k] : Nat) : Int)) := by simp [h]
end Go.Am.Top
set_option linter.unusedVariables false
set_option linter.unusedSimpArgs false
set_option maxRecDepth 10000
namespace Go.Am.Top
open Go.Am.G
theorem gvc_scalar (b sz n : Nat) : (GVc b sz n).scalar = true := by
  unfold GVc; split <;> rfl
theorem cellsA (cs : List LV) : (LV.agg cs).cells = some cs := rfl
theorem cellsI (k : IntKind) (a : Int) : (LV.int k a).cells = some [.int k a] := rfl
theorem scalarN (a b : Bool) (c d : Nat) (cs : List LV) : (LV.lst a b c d cs).scalar = true := rfl
theorem scalarI (k : IntKind) (a : Int) : (LV.int k a).scalar = true := rfl
theorem gvc_cells (b sz n : Nat) : (GVc b sz n).cells = some [GVc b sz n] := by
  unfold GVc; split <;> rfl
def MT (n : Nat) (V : LV) (fs : List Nat) : LMem := ⟨[.int .i64 (n : Int),V],true⟩ :: ⟨[.int .i64 0,.lst true true 0 0 []],true⟩ :: ⟨[.int .i64 (n : Int),GVc 3 1 fs.length],true⟩ :: GMc fs.length (u8s fs)
abbrev RU (fs : List Nat) : LV := RLc 1 fs.length (u8s fs)
theorem view_tab (m : LMem) (b n k : Nat) (cs : List LV) (e : Int) (h : k ≠ 0 → m[b]? = some ⟨cs,true⟩) (hl : cs.length = k) (hp : LV.pures cs = true) : ∃ ids,view 100 m (.tup [.agg [.int .i64 (n : Int),GVc b 1 k],.int .i64 e]) = some (.tup [.agg [.int .i64 (n : Int),RLc 1 k cs],.int .i64 e],ids) := by
  by_cases hk : k = 0
  · subst hk
    obtain rfl : cs = [] := by simpa using hl
    exact ⟨[],rfl⟩
  · have h := h hk
    refine ⟨[b],?_⟩
    have eg : GVc b 1 k = .sl b 0 k k 1 1 (k * 1) := by simp [GVc,hk]
    have er : RLc 1 k cs = .lst false (Nat.beq 1 0 && Nat.beq k k) 1 k ((cs.drop 0).take (k * 1)) := by
      rw [List.drop_zero,List.take_of_length_le (by omega)]
      simp [hk,nbeq]
    rw [eg,er]
    have e1 : ∀ j,view (j + 3) m (.sl b 0 k k 1 1 (k * 1)) = some (.lst false (Nat.beq 1 0 && Nat.beq k k) 1 k ((cs.drop 0).take (k * 1)),[b]) := fun j =>
      view_slc j m b 0 k (k * 1) 1 k 1 cs true h (by rw [List.drop_zero,List.take_of_length_le (by omega)]; exact hp) (by omega) (by omega) (Nat.le_refl _)
    have e2 := views_snd 88 m (.int .i64 (n : Int)) (.sl b 0 k k 1 1 (k * 1)) _ [b] e1 rfl (by simp [LV.pures,LV.pure])
    have e3 : view 97 m (.agg [.int .i64 (n : Int),.sl b 0 k k 1 1 (k * 1)]) = some (.agg [.int .i64 (n : Int),.lst false (Nat.beq 1 0 && Nat.beq k k) 1 k ((cs.drop 0).take (k * 1))],[b]) := by
      rw [view.eq_def]; simp only [e2]
    rw [view.eq_def]
    simp only
    rw [viewL.eq_def]
    simp only [show LV.pures [LV.agg [.int .i64 (n : Int),.sl b 0 k k 1 1 (k * 1)],.int .i64 e] = false by simp [LV.pures,LV.pure],cond_false]
    rw [viewC.eq_def]
    simp only [e3]
    rw [viewC.eq_def]
    simp only [view_pure 94 m (.int .i64 e) rfl]
    rw [viewC.eq_def]
    simp
end Go.Am.Top
set_option linter.unusedVariables false
set_option linter.unusedSimpArgs false
set_option maxRecDepth 10000
namespace Go.Am.Top
open Go.Am.G
def mets (N : Nat) (O : List Nat) : List Bool := (List.range (N + 1)).map fun i => decide (i ∈ O)
theorem mets_len (N : Nat) (O : List Nat) : (mets N O).length = N + 1 := by simp [mets]
theorem mets_at (N : Nat) (O : List Nat) (x : Nat) (h : x < N) : ((mets N O).map LV.bool)[x]? = some (.bool (decide (x ∈ O))) := by
  simp [mets,show x < N + 1 by omega]
theorem mets_set (N : Nat) (O : List Nat) (x : Nat) (h : x < N + 1) : (mets N O).set x true = mets N (O ++ [x]) := by
  apply List.ext_getElem?
  intro i
  rw [List.getElem?_set,mets_len]
  by_cases c : x = i
  · subst c; simp [mets,h]
  · rw [if_neg c]
    by_cases hi : i < N + 1
    · simp [mets,hi,Ne.symm c]
    · rw [List.getElem?_eq_none (by rw [mets_len]; omega),List.getElem?_eq_none (by rw [mets_len]; omega)]
structure FM (r c : Nat) (nl ex : Bool) (sz : Nat) (hs : List Int) (F : LV) (vT vO : LV) (s : FS) (m : LMem) : Prop where
  m0 : m[0]? = some ⟨SH r c nl ex sz hs,true⟩
  m1 : m[1]? = some ⟨[F],true⟩
  m2 : m[2]? = some ⟨(mets hs.length s.O).map LV.bool,true⟩
  m3 : m[3]? = some ⟨[.sl 2 0 (hs.length + 1) (hs.length + 1) 0 1 (hs.length + 1)],true⟩
  m4 : m[4]? = some ⟨[vT],true⟩
  m5 : m[5]? = some ⟨[vO],true⟩
  qT : Qu m vT (ci s.T)
  qO : Qu m vO (ci s.O)
  bT : ∀ i,isBlk vT i → 6 ≤ i
  bO : ∀ i,isBlk vO i → 6 ≤ i
  dis : ∀ i,isBlk vT i → ¬ isBlk vO i
  okO : s.O.Nodup ∧ ∀ x ∈ s.O,x < hs.length
  okT : s.T.Nodup ∧ ∀ x ∈ s.T,x ∈ s.O
theorem FM.len {r c : Nat} {nl ex : Bool} {sz : Nat} {hs : List Int} {F vT vO : LV} {s : FS} {m : LMem} (h : FM r c nl ex sz hs F vT vO s m) : 6 ≤ m.length := by
  have := (List.getElem?_eq_some_iff.1 h.m5).1
  omega
theorem nodup_le {l : List Nat} {N : Nat} (h : l.Nodup) (hl : ∀ x ∈ l,x < N) : l.length ≤ N := by
  have := List.Nodup.length_le_of_subset h (l₂ := List.range N) fun x hx => List.mem_range.2 (hl x hx)
  rwa [List.length_range] at this
theorem FM.lenO {r c : Nat} {nl ex : Bool} {sz : Nat} {hs : List Int} {F vT vO : LV} {s : FS} {m : LMem} (h : FM r c nl ex sz hs F vT vO s m) : s.O.length ≤ hs.length := nodup_le h.okO.1 h.okO.2
theorem FM.lenT {r c : Nat} {nl ex : Bool} {sz : Nat} {hs : List Int} {F vT vO : LV} {s : FS} {m : LMem} (h : FM r c nl ex sz hs F vT vO s m) : s.T.length ≤ hs.length := nodup_le h.okT.1 fun x hx => h.okO.2 x (h.okT.2 x hx)
theorem FM.mono {r c : Nat} {nl ex : Bool} {sz : Nat} {hs : List Int} {F vT vO : LV} {s : FS} {m m' : LMem} (h : FM r c nl ex sz hs F vT vO s m) (hm : ∀ i,i < 6 ∨ isBlk vT i ∨ isBlk vO i → m'[i]? = m[i]?) : FM r c nl ex sz hs F vT vO s m' :=
  ⟨(hm 0 (by omega)).trans h.m0,(hm 1 (by omega)).trans h.m1,(hm 2 (by omega)).trans h.m2,(hm 3 (by omega)).trans h.m3,(hm 4 (by omega)).trans h.m4,(hm 5 (by omega)).trans h.m5,
    h.qT.mono fun i hi => hm i (.inr (.inl hi)),h.qO.mono fun i hi => hm i (.inr (.inr hi)),h.bT,h.bO,h.dis,h.okO,h.okT⟩
theorem isBlk_under {v : LV} {i k : Nat} (h : isBlk v i) (hu : LV.under k v = true) : i < k := by
  unfold isBlk at h
  split at h
  · subst h
    simpa [LV.under,nblt] using hu
  · cases h
theorem trim_left (k : Nat) (vs : List LV) (m : LMem) : trim k vs m = m ∨ (trim k vs m = m.take k ∧ belowM k (m.take k) = true) := by
  unfold trim
  cases h : (LV.unders k vs && belowM k (m.take k))
  · exact .inl rfl
  · simp only [Bool.and_eq_true] at h
    exact .inr ⟨rfl,h.2⟩
theorem below_at {k : Nat} {m : LMem} (h : belowM k m = true) {i : Nat} {b : LBlk} (hb : m[i]? = some b) : LV.unders k b.cells = true := by
  unfold belowM at h
  rw [List.all_eq_true] at h
  exact h b (List.mem_of_getElem? hb)
theorem FM.trim {r c : Nat} {nl ex : Bool} {sz : Nat} {hs : List Int} {F vT vO : LV} {s : FS} {m : LMem} (h : FM r c nl ex sz hs F vT vO s m) (k : Nat) (vs : List LV) (hk : 6 ≤ k) : FM r c nl ex sz hs F vT vO s (trim k vs m) := by
  rcases trim_left k vs m with e | ⟨e,hb⟩
  · rw [e]; exact h
  · rw [e]
    have t : ∀ i,i < k → (m.take k)[i]? = m[i]? := fun i hi => by rw [List.getElem?_take,if_pos hi]
    have u4 := below_at hb ((t 4 (by omega)).trans h.m4)
    have u5 := below_at hb ((t 5 (by omega)).trans h.m5)
    simp only [LV.unders,Bool.and_true] at u4 u5
    refine h.mono fun i hi => t i ?_
    rcases hi with hi | hi | hi
    · omega
    · exact isBlk_under hi u4
    · exact isBlk_under hi u5
structure FF (r c : Nat) (nl ex : Bool) (sz : Nat) (hs : List Int) (F : LV) (f : Nat) (s : FS) (m : LMem) : Prop where
  mem : ∃ vT vO,FM r c nl ex sz hs F vT vO s m ∧ ¬ isBlk vT f ∧ ¬ isBlk vO f
  flag : m[f]? = some ⟨[.bool true],true⟩
  f6 : 6 ≤ f
theorem FF.trim {r c : Nat} {nl ex : Bool} {sz : Nat} {hs : List Int} {F : LV} {f : Nat} {s : FS} {m : LMem} (h : FF r c nl ex sz hs F f s m) (k : Nat) (vs : List LV) (hk : f + 1 ≤ k) : FF r c nl ex sz hs F f s (Go.Am.trim k vs m) := by
  obtain ⟨vT,vO,hm,n1,n2⟩ := h.mem
  have := h.f6
  refine ⟨⟨vT,vO,hm.trim k vs (by omega),n1,n2⟩,?_,h.f6⟩
  rcases trim_left k vs m with e | ⟨e,_⟩
  · rw [e]; exact h.flag
  · rw [e,List.getElem?_take,if_pos (by omega)]; exact h.flag
theorem FF.len {r c : Nat} {nl ex : Bool} {sz : Nat} {hs : List Int} {F : LV} {f : Nat} {s : FS} {m : LMem} (h : FF r c nl ex sz hs F f s m) : f + 1 ≤ m.length := by
  have := (List.getElem?_eq_some_iff.1 h.flag).1
  omega
abbrev capF (f : Nat) : List LV := [.undef,.undef,.undef,.ptr 0 0 3,.undef,.undef,.undef,.undef,.ptr 3 0 1,.undef,.undef,.undef,.undef,.undef,.undef,.undef,.ptr 1 0 1,.undef,.undef,.undef,.undef,.undef,.undef,.undef,.ptr 4 0 1,.undef,.undef,.undef,.undef,.ptr 5 0 1,.undef,.undef,.undef,.ptr f 0 1]
theorem set_get (m : LMem) (i j : Nat) (b : LBlk) (h : i ≠ j) : (m.set i b)[j]? = m[j]? := by rw [List.getElem?_set,if_neg h]
theorem set_got (m : LMem) (i : Nat) (b : LBlk) (h : i < m.length) : (m.set i b)[i]? = some b := by simp [h]
theorem set_back (m : LMem) (i : Nat) (a b : LBlk) (h : m[i]? = some b) : (m.set i a).set i b = m := by
  rw [List.set_set]
  apply List.ext_getElem?
  intro j
  rw [List.getElem?_set]
  by_cases c : i = j
  · subst c
    have := (List.getElem?_eq_some_iff.1 h).1
    rw [if_pos rfl,if_pos this,h]
  · rw [if_neg c]
def MayF (g : Nat) (first cap : List LV) (N : Nat) (may : Nat → Bool) : Prop := ∀ x,x < N → ∀ m,clF LP g (first ++ ([.int .i64 (x : Int)] ++ cap)) m = some (.P,.bool (may x),m)
abbrev argsR (f x : Nat) : List LV := [.undef,.undef,.undef,.ptr 0 0 3,.undef,.ptr 1 0 1,.undef,.ptr 3 0 1,.ptr 4 0 1,.ptr 5 0 1,.undef,.undef,.undef,.undef,.undef,.undef,.undef,.undef,.undef,.undef,.undef,.undef,.undef,.undef,.undef,.undef,.undef,.undef,.undef,.undef,.undef,.undef,.undef,.undef,.undef,.undef,.undef,.undef,.int .i64 (x : Int),.undef,.undef,.undef,.undef,.undef,.undef,.undef,.undef,.undef,.undef,.undef,.undef,.undef,.undef,.undef,.undef,.undef,.undef,.undef,.undef,.undef,.undef,.undef,.undef,.undef,.undef,.undef,.undef,.undef,.undef,.ptr f 0 1,.ptr f 0 1]
theorem round_no {r c : Nat} {nl ex : Bool} {sz : Nat} {hs : List Int} (hN : hs.length ≤ 36) (g : Nat) (first cap : List LV) (may : Nat → Bool) (hmay : MayF g first cap hs.length may) (f : Nat) (s : FS) (m : LMem) (x : Nat) (hx : x ≤ hs.length) (vT vO : LV) (h : FM r c nl ex sz hs (.func g first cap) vT vO s m) (hf : m[f]? = some ⟨[.bool true],true⟩) (h6 : 6 ≤ f) (hno : ¬ (x < hs.length ∧ x ∉ s.O ∧ may x = true)) :
    retL ebb_Shore_flood_r0.results (exF LP ebb_Shore_flood_r0.B (LEnv.ofFrom 0 (argsR f x)) m) = some (.tup [],m) := by
  have hfl := (List.getElem?_eq_some_iff.1 hf).1
  have hr := fun m => river_c r c hs nl ex sz m
  have a0 := (set_get m f 0 ⟨[.bool false],true⟩ (by omega)).trans h.m0
  have a1 := (set_get m f 1 ⟨[.bool false],true⟩ (by omega)).trans h.m1
  have a2 := (set_get m f 2 ⟨[.bool false],true⟩ (by omega)).trans h.m2
  have a3 := (set_get m f 3 ⟨[.bool false],true⟩ (by omega)).trans h.m3
  have af := set_got m f ⟨[.bool false],true⟩ hfl
  have hbk := set_back m f ⟨[.bool false],true⟩ ⟨[.bool true],true⟩ hf
  have hml : ((mets hs.length s.O).map LV.bool).length = hs.length + 1 := by rw [List.length_map,mets_len]
  by_cases q : x < hs.length
  · have hat := mets_at hs.length s.O x q
    by_cases q2 : x ∈ s.O
    · rw [decide_eq_true q2] at hat
      simp only [ebb_Shore_flood_r0,ebb_Shore_flood_r0.B,beqT,exF_seq,exF_region,exF_block,exF_cond,exF_skip,runL,wantL,stepL,evL,evC,LEnv.at,putL,loadFine,loadL,cellsAt,Trk.putNew,Trk.up,Trk.touch,Trk.gives,Trk.calm,Trk.hit,opdsOf,Trk.fresh,LEnv.keep,LEnv.ofFrom,List.map_cons,List.map_nil,nbeq,nble,nblt,ofAVs,bin_lss,natL_nat,List.any_cons,List.any_nil,Bool.or_false,Bool.false_or,Bool.true_or,Bool.or_true,Bool.and_true,Bool.true_and,Bool.not_true,Bool.not_false,Nat.reduceEqDiff,decide_true,decide_false,cond_true,cond_false,List.filter_nil,List.filter_cons,Nat.reduceAdd,Nat.reduceLeDiff,reduceCtorEq,List.length_nil,List.length_cons,Nat.mul_one,if_true,eq_self,retL,resultsL,resAllL,List.append_nil,List.nil_append,unL,LV.cells,List.getElem?_cons_zero,storeL,spliceL,List.take_zero,List.take_succ_cons,List.drop_zero,List.drop_succ_cons,List.drop_nil,List.take_nil,Nat.le_refl,LV.scalar,List.all_cons,List.all_nil,hf,af,a0,a2,a3,hr,show (x : Int) < (hs.length : Int) by omega,hml,show x < hs.length + 1 by omega,Nat.zero_add,hat,hbk]
    · have q3 : may x = false := by
        cases hm : may x
        · rfl
        · exact absurd ⟨q,q2,hm⟩ hno
      rw [decide_eq_false q2] at hat
      have hm := hmay x q
      rw [q3] at hm
      simp only [List.cons_append,List.nil_append] at hm
      simp only [ebb_Shore_flood_r0,ebb_Shore_flood_r0.B,beqT,exF_seq,exF_region,exF_block,exF_cond,exF_skip,runL,wantL,stepL,evL,evC,LEnv.at,putL,loadFine,loadL,cellsAt,Trk.putNew,Trk.up,Trk.touch,Trk.gives,Trk.calm,Trk.hit,opdsOf,Trk.fresh,LEnv.keep,LEnv.ofFrom,List.map_cons,List.map_nil,nbeq,nble,nblt,ofAVs,bin_lss,natL_nat,List.any_cons,List.any_nil,Bool.or_false,Bool.false_or,Bool.true_or,Bool.or_true,Bool.and_true,Bool.true_and,Bool.not_true,Bool.not_false,Nat.reduceEqDiff,decide_true,decide_false,cond_true,cond_false,List.filter_nil,List.filter_cons,Nat.reduceAdd,Nat.reduceLeDiff,reduceCtorEq,List.length_nil,List.length_cons,Nat.mul_one,if_true,eq_self,retL,resultsL,resAllL,List.append_nil,List.nil_append,List.cons_append,unL,LV.cells,List.getElem?_cons_zero,storeL,spliceL,List.take_zero,List.take_succ_cons,List.drop_zero,List.drop_succ_cons,List.drop_nil,List.take_nil,Nat.le_refl,LV.scalar,List.all_cons,List.all_nil,hf,af,a0,a1,a2,a3,hr,show (x : Int) < (hs.length : Int) by omega,hml,show x < hs.length + 1 by omega,Nat.zero_add,hat,hm,hbk]
  · simp only [ebb_Shore_flood_r0,ebb_Shore_flood_r0.B,beqT,exF_seq,exF_region,exF_block,exF_cond,exF_skip,runL,wantL,stepL,evL,evC,LEnv.at,putL,loadFine,loadL,cellsAt,Trk.putNew,Trk.up,Trk.touch,Trk.gives,Trk.calm,Trk.hit,opdsOf,Trk.fresh,LEnv.keep,LEnv.ofFrom,List.map_cons,List.map_nil,nbeq,nble,ofAVs,bin_lss,List.any_cons,List.any_nil,Bool.or_false,Bool.false_or,Bool.true_or,Bool.or_true,Bool.and_true,Bool.true_and,Bool.not_true,Bool.not_false,Nat.reduceEqDiff,decide_true,decide_false,cond_true,cond_false,List.filter_nil,Nat.reduceAdd,Nat.reduceLeDiff,reduceCtorEq,List.length_nil,List.length_cons,eq_self,retL,resultsL,resAllL,List.append_nil,List.nil_append,LV.cells,List.getElem?_cons_zero,storeL,spliceL,List.take_zero,List.take_succ_cons,List.drop_zero,List.drop_succ_cons,List.drop_nil,List.take_nil,Nat.le_refl,LV.scalar,List.all_cons,List.all_nil,hf,af,a0,hr,show ¬ (x : Int) < (hs.length : Int) by omega,hbk]
set_option maxHeartbeats 1000000 in
theorem round_yes {r c : Nat} {nl ex : Bool} {sz : Nat} {hs : List Int} (hN : hs.length ≤ 36) (g : Nat) (first cap : List LV) (may : Nat → Bool) (hmay : MayF g first cap hs.length may) (f : Nat) (s : FS) (m : LMem) (x : Nat) (vT vO : LV) (h : FM r c nl ex sz hs (.func g first cap) vT vO s m) (hf : m[f]? = some ⟨[.bool true],true⟩) (h6 : 6 ≤ f) (n1 : ¬ isBlk vT f) (n2 : ¬ isBlk vO f) (hx : x < hs.length) (hxO : x ∉ s.O) (hxm : may x = true) :
    ∃ m',retL ebb_Shore_flood_r0.results (exF LP ebb_Shore_flood_r0.B (LEnv.ofFrom 0 (argsR f x)) m) = some (.tup [],m') ∧ FF r c nl ex sz hs (.func g first cap) f ⟨s.T ++ [x],s.O ++ [x]⟩ m' := by
  have hfl := (List.getElem?_eq_some_iff.1 hf).1
  have hr := fun m => river_c r c hs nl ex sz m
  have hlT := h.lenT
  have hlO := h.lenO
  have h6m := h.len
  have a0 := (set_get m f 0 ⟨[.bool false],true⟩ (by omega)).trans h.m0
  have a1 := (set_get m f 1 ⟨[.bool false],true⟩ (by omega)).trans h.m1
  have a2 := (set_get m f 2 ⟨[.bool false],true⟩ (by omega)).trans h.m2
  have a3 := (set_get m f 3 ⟨[.bool false],true⟩ (by omega)).trans h.m3
  have a4 := (set_get m f 4 ⟨[.bool false],true⟩ (by omega)).trans h.m4
  have a5 := (set_get m f 5 ⟨[.bool false],true⟩ (by omega)).trans h.m5
  have af := set_got m f ⟨[.bool false],true⟩ hfl
  have hml : ((mets hs.length s.O).map LV.bool).length = hs.length + 1 := by rw [List.length_map,mets_len]
  have hat := mets_at hs.length s.O x hx
  rw [decide_eq_false hxO] at hat
  have hm := hmay x hx
  rw [hxm] at hm
  simp only [List.cons_append,List.nil_append] at hm
  have hst := set_bool (mets hs.length s.O) x true (by rw [mets_len]; omega)
  rw [mets_set _ _ _ (by omega)] at hst
  -- the memory ahead of the lists
  generalize hM1 : m.set f ⟨[.bool false],true⟩ = M1 at *
  have hM1l : M1.length = m.length := by rw [← hM1]; simp
  have F1 : FM r c nl ex sz hs (.func g first cap) vT vO s M1 := h.mono fun i hi => by
    rw [← hM1]
    refine set_get m f i _ fun e => ?_
    subst e
    rcases hi with hi | hi | hi
    · omega
    · exact n1 hi
    · exact n2 hi
  generalize hM2 : M1.set 2 ⟨(mets hs.length (s.O ++ [x])).map LV.bool,true⟩ = M2 at *
  have hM2l : M2.length = M1.length := by rw [← hM2]; simp
  have g2 : ∀ i,i ≠ 2 → M2[i]? = M1[i]? := fun i hi => by rw [← hM2]; exact set_get _ _ _ _ (Ne.symm hi)
  have qT2 : Qu M2 vT (ci s.T) := F1.qT.mono fun i hi => g2 i (by have := h.bT i hi; omega)
  obtain ⟨vT',M3,p1,p2,p3,p4,p5⟩ := qT2.append (by simp [ci]; omega) (x : Int) true
  have qO3 : Qu M3 vO (ci s.O) := (F1.qO.mono fun i hi => g2 i (by have := h.bO i hi; omega)).mono fun i hi => by
    have : Qu M2 vO (ci s.O) := F1.qO.mono fun i hi => g2 i (by have := h.bO i hi; omega)
    exact p3 i (this.lt i hi) fun c => h.dis i c hi
  have b4 : M2[4]? = some ⟨[vT],true⟩ := (g2 4 (by omega)).trans F1.m4
  have b5 : M3[5]? = some ⟨[vO],true⟩ := (p3 5 (by omega) fun c => by have := h.bT 5 c; omega).trans ((g2 5 (by omega)).trans F1.m5)
  obtain ⟨vO',M4,q1,q2,q3,q4,q5⟩ := qO3.append (by simp [ci]; omega) (x : Int) true
  have hb4 : M4[4]? = some ⟨[vT],true⟩ := (q3 4 (by omega) fun c => by have := h.bO 4 c; omega).trans ((p3 4 (by omega) fun c => by have := h.bT 4 c; omega).trans b4)
  have hl4 : 6 ≤ M4.length := by omega
  have hb5 : (M4.set 4 ⟨[vT'],true⟩)[5]? = some ⟨[vO],true⟩ := by
    rw [set_get _ _ _ _ (by omega)]
    exact (q3 5 (by omega) fun c => by have := h.bO 5 c; omega).trans b5
  have hbf : ((M4.set 4 ⟨[vT'],true⟩).set 5 ⟨[vO'],true⟩)[f]? = some ⟨[.bool false],true⟩ := by
    rw [set_get _ _ _ _ (by omega),set_get _ _ _ _ (by omega)]
    refine (q3 f (by omega) n2).trans ((p3 f (by omega) n1).trans ((g2 f (by omega)).trans ?_))
    exact af
  have sT := p2.scalar
  have cT := p2.cells
  have sO := q2.scalar
  have cO := q2.cells
  have hstart : ¬ (M2.length ≤ 5) := by omega
  have hstart4 : ¬ (M2.length ≤ 4) := by omega
  have n5T : ∀ i,isBlk vT i → ¬ 5 = i := fun i hi => by have := h.bT i hi; omega
  -- the end
  have keep : ∀ i,i < M1.length → i ≠ 2 → i ≠ 4 → i ≠ 5 → i ≠ f → ¬ isBlk vT i → ¬ isBlk vO i → (((M4.set 4 ⟨[vT'],true⟩).set 5 ⟨[vO'],true⟩).set f ⟨[.bool true],true⟩)[i]? = M1[i]? := fun i hi e2 e4 e5 ef eT eO => by
    rw [set_get _ _ _ _ (Ne.symm ef),set_get _ _ _ _ (Ne.symm e5),set_get _ _ _ _ (Ne.symm e4)]
    exact (q3 i (by omega) eO).trans ((p3 i (by omega) eT).trans (g2 i e2))
  have small : ∀ i,i < 6 → ¬ isBlk vT i ∧ ¬ isBlk vO i := fun i hi => ⟨fun c => by have := h.bT i c; omega,fun c => by have := h.bO i c; omega⟩
  have bT' : ∀ i,isBlk vT' i → 6 ≤ i ∧ i ≠ f ∧ ¬ isBlk vO i := fun i hi => by
    rcases p5 i hi with c | c
    · exact ⟨h.bT i c,fun e => n1 (e ▸ c),h.dis i c⟩
    · exact ⟨by omega,by omega,fun e => by have := (F1.qO.mono (m' := M2) fun i hi => g2 i (by have := h.bO i hi; omega)).lt i e; omega⟩
  have bO' : ∀ i,isBlk vO' i → 6 ≤ i ∧ i ≠ f ∧ ¬ isBlk vT' i := fun i hi => by
    rcases q5 i hi with c | c
    · exact ⟨h.bO i c,fun e => n2 (e ▸ c),fun e => (bT' i e).2.2 c⟩
    · exact ⟨by omega,by omega,fun e => by have := p2.lt i e; omega⟩
  have fin : FF r c nl ex sz hs (.func g first cap) f ⟨s.T ++ [x],s.O ++ [x]⟩ (((M4.set 4 ⟨[vT'],true⟩).set 5 ⟨[vO'],true⟩).set f ⟨[.bool true],true⟩) := by
    have eT : ci (s.T ++ [x]) = ci s.T ++ [(x : Int)] := by simp [ci]
    have eO : ci (s.O ++ [x]) = ci s.O ++ [(x : Int)] := by simp [ci]
    have k0 := small 0 (by omega)
    have k1 := small 1 (by omega)
    have k3 := small 3 (by omega)
    refine ⟨⟨vT',vO',⟨(keep 0 (by omega) (by omega) (by omega) (by omega) (by omega) k0.1 k0.2).trans F1.m0,(keep 1 (by omega) (by omega) (by omega) (by omega) (by omega) k1.1 k1.2).trans F1.m1,?_,(keep 3 (by omega) (by omega) (by omega) (by omega) (by omega) k3.1 k3.2).trans F1.m3,?_,?_,?_,?_,fun i hi => (bT' i hi).1,fun i hi => (bO' i hi).1,fun i hi hi' => (bO' i hi').2.2 hi,?_,?_⟩,fun c => (bT' f c).2.1 rfl,fun c => (bO' f c).2.1 rfl⟩,?_,h6⟩
    · rw [set_get _ _ _ _ (by omega),set_get _ _ _ _ (by omega),set_get _ _ _ _ (by omega)]
      refine (q3 2 (by omega) (small 2 (by omega)).2).trans ((p3 2 (by omega) (small 2 (by omega)).1).trans ?_)
      rw [← hM2]
      exact set_got _ _ _ (by omega)
    · rw [set_get _ _ _ _ (by omega),set_get _ _ _ _ (by omega)]
      exact set_got _ _ _ (by omega)
    · rw [set_get _ _ _ _ (by omega)]
      exact set_got _ _ _ (by simp; omega)
    · show Qu _ vT' (ci (s.T ++ [x]))
      rw [eT]
      refine p2.mono fun i hi => ?_
      have := bT' i hi
      rw [set_get _ _ _ _ (Ne.symm this.2.1),set_get _ _ _ _ (by omega),set_get _ _ _ _ (by omega)]
      exact q3 i (p2.lt i hi) this.2.2
    · show Qu _ vO' (ci (s.O ++ [x]))
      rw [eO]
      refine q2.mono fun i hi => ?_
      have := bO' i hi
      rw [set_get _ _ _ _ (Ne.symm this.2.1),set_get _ _ _ _ (by omega),set_get _ _ _ _ (by omega)]
    · refine ⟨List.nodup_append.2 ⟨h.okO.1,by simp,fun a ha b hb e => ?_⟩,fun y hy => ?_⟩
      · rw [List.mem_singleton.1 hb] at e
        rw [e] at ha
        exact hxO ha
      · rcases List.mem_append.1 hy with hy | hy
        · exact h.okO.2 y hy
        · rw [List.mem_singleton.1 hy]; exact hx
    · refine ⟨List.nodup_append.2 ⟨h.okT.1,by simp,fun a ha b hb e => ?_⟩,fun y hy => ?_⟩
      · rw [List.mem_singleton.1 hb] at e
        rw [e] at ha
        exact hxO (h.okT.2 _ ha)
      · rcases List.mem_append.1 hy with hy | hy
        · exact List.mem_append_left _ (h.okT.2 y hy)
        · exact List.mem_append_right _ hy
    · exact set_got _ _ _ (by simp; omega)
  refine ⟨_,?_,fin⟩
  have e65 : LV.cells (LV.bool true) = some [.bool true] := rfl
  have e66 : LV.cells (LV.bool false) = some [.bool false] := rfl
  have e67 : ∀ b,LV.scalar (LV.bool b) = true := fun _ => rfl
  rcases h.qT with ⟨nl1,ex1,z1,rfl,w1⟩ | ⟨b1,o1,cs1,rfl,w1⟩
  · rcases h.qO with ⟨nl2,ex2,z2,rfl,w2⟩ | ⟨b2,o2,cs2,rfl,w2⟩
    · simp only [ebb_Shore_flood_r0,ebb_Shore_flood_r0.B,beqT,exF_seq,exF_region,exF_block,exF_cond,exF_skip,runL,wantL,stepL,evL,evC,LEnv.at,putL,loadFine,loadL,cellsAt,Trk.putNew,Trk.up,Trk.touch,Trk.gives,Trk.calm,Trk.hit,opdsOf,Trk.fresh,LEnv.keep,LEnv.ofFrom,List.map_cons,List.map_nil,nbeq,nble,nblt,ofAV,ofAVs,bin_lss,natL_nat,List.any_cons,List.any_nil,Bool.or_false,Bool.false_or,Bool.true_or,Bool.or_true,Bool.and_true,Bool.true_and,Bool.false_and,Bool.not_true,Bool.not_false,Nat.reduceEqDiff,decide_true,decide_false,cond_true,cond_false,List.filter_nil,List.filter_cons,Nat.reduceAdd,Nat.reduceLeDiff,reduceCtorEq,List.length_nil,List.length_cons,Nat.mul_one,if_true,eq_self,retL,resultsL,resAllL,List.append_nil,List.nil_append,List.cons_append,unL,views_pures,LV.pures,LV.pure,freeze,Nat.reduceDiv,List.getElem?_cons_zero,storeL,spliceL,List.take_zero,List.take_succ_cons,List.drop_zero,List.drop_succ_cons,List.drop_nil,List.take_nil,Nat.le_refl,List.all_cons,List.all_nil,fillL,cellsI,e65,e66,e67,hf,hM1,af,a0,a1,a2,a3,hr,show (x : Int) < (hs.length : Int) by omega,hml,show x < hs.length + 1 by omega,Nat.zero_add,hat,hm,show x + 1 ≤ hs.length + 1 by omega,hst,hM2,b4,p1,b5,q1,hb4,hb5,hbf,sT,cT,sO,cO,hstart,hstart4]
    · simp only [ebb_Shore_flood_r0,ebb_Shore_flood_r0.B,beqT,exF_seq,exF_region,exF_block,exF_cond,exF_skip,runL,wantL,stepL,evL,evC,LEnv.at,putL,loadFine,loadL,cellsAt,Trk.putNew,Trk.up,Trk.touch,Trk.gives,Trk.calm,Trk.hit,opdsOf,Trk.fresh,LEnv.keep,LEnv.ofFrom,List.map_cons,List.map_nil,nbeq,nble,nblt,ofAV,ofAVs,bin_lss,natL_nat,List.any_cons,List.any_nil,Bool.or_false,Bool.false_or,Bool.true_or,Bool.or_true,Bool.and_true,Bool.true_and,Bool.false_and,Bool.not_true,Bool.not_false,Nat.reduceEqDiff,decide_true,decide_false,cond_true,cond_false,List.filter_nil,List.filter_cons,Nat.reduceAdd,Nat.reduceLeDiff,reduceCtorEq,List.length_nil,List.length_cons,Nat.mul_one,if_true,eq_self,retL,resultsL,resAllL,List.append_nil,List.nil_append,List.cons_append,unL,views_pures,LV.pures,LV.pure,freeze,Nat.reduceDiv,List.getElem?_cons_zero,storeL,spliceL,List.take_zero,List.take_succ_cons,List.drop_zero,List.drop_succ_cons,List.drop_nil,List.take_nil,Nat.le_refl,List.all_cons,List.all_nil,fillL,cellsI,e65,e66,e67,hf,hM1,af,a0,a1,a2,a3,hr,show (x : Int) < (hs.length : Int) by omega,hml,show x < hs.length + 1 by omega,Nat.zero_add,hat,hm,show x + 1 ≤ hs.length + 1 by omega,hst,hM2,b4,p1,b5,q1,hb4,hb5,hbf,sT,cT,sO,cO,hstart,hstart4]
  · have n5 := n5T b1 rfl
    rcases h.qO with ⟨nl2,ex2,z2,rfl,w2⟩ | ⟨b2,o2,cs2,rfl,w2⟩
    · simp only [ebb_Shore_flood_r0,ebb_Shore_flood_r0.B,beqT,exF_seq,exF_region,exF_block,exF_cond,exF_skip,runL,wantL,stepL,evL,evC,LEnv.at,putL,loadFine,loadL,cellsAt,Trk.putNew,Trk.up,Trk.touch,Trk.gives,Trk.calm,Trk.hit,opdsOf,Trk.fresh,LEnv.keep,LEnv.ofFrom,List.map_cons,List.map_nil,nbeq,nble,nblt,ofAV,ofAVs,bin_lss,natL_nat,List.any_cons,List.any_nil,Bool.or_false,Bool.false_or,Bool.true_or,Bool.or_true,Bool.and_true,Bool.true_and,Bool.false_and,Bool.not_true,Bool.not_false,Nat.reduceEqDiff,decide_true,decide_false,cond_true,cond_false,List.filter_nil,List.filter_cons,Nat.reduceAdd,Nat.reduceLeDiff,reduceCtorEq,List.length_nil,List.length_cons,Nat.mul_one,if_true,eq_self,retL,resultsL,resAllL,List.append_nil,List.nil_append,List.cons_append,unL,views_pures,LV.pures,LV.pure,freeze,Nat.reduceDiv,List.getElem?_cons_zero,storeL,spliceL,List.take_zero,List.take_succ_cons,List.drop_zero,List.drop_succ_cons,List.drop_nil,List.take_nil,Nat.le_refl,List.all_cons,List.all_nil,fillL,cellsI,e65,e66,e67,hf,hM1,af,a0,a1,a2,a3,hr,show (x : Int) < (hs.length : Int) by omega,hml,show x < hs.length + 1 by omega,Nat.zero_add,hat,hm,show x + 1 ≤ hs.length + 1 by omega,hst,hM2,b4,p1,b5,q1,hb4,hb5,hbf,sT,cT,sO,cO,hstart,hstart4,n5]
    · simp only [ebb_Shore_flood_r0,ebb_Shore_flood_r0.B,beqT,exF_seq,exF_region,exF_block,exF_cond,exF_skip,runL,wantL,stepL,evL,evC,LEnv.at,putL,loadFine,loadL,cellsAt,Trk.putNew,Trk.up,Trk.touch,Trk.gives,Trk.calm,Trk.hit,opdsOf,Trk.fresh,LEnv.keep,LEnv.ofFrom,List.map_cons,List.map_nil,nbeq,nble,nblt,ofAV,ofAVs,bin_lss,natL_nat,List.any_cons,List.any_nil,Bool.or_false,Bool.false_or,Bool.true_or,Bool.or_true,Bool.and_true,Bool.true_and,Bool.false_and,Bool.not_true,Bool.not_false,Nat.reduceEqDiff,decide_true,decide_false,cond_true,cond_false,List.filter_nil,List.filter_cons,Nat.reduceAdd,Nat.reduceLeDiff,reduceCtorEq,List.length_nil,List.length_cons,Nat.mul_one,if_true,eq_self,retL,resultsL,resAllL,List.append_nil,List.nil_append,List.cons_append,unL,views_pures,LV.pures,LV.pure,freeze,Nat.reduceDiv,List.getElem?_cons_zero,storeL,spliceL,List.take_zero,List.take_succ_cons,List.drop_zero,List.drop_succ_cons,List.drop_nil,List.take_nil,Nat.le_refl,List.all_cons,List.all_nil,fillL,cellsI,e65,e66,e67,hf,hM1,af,a0,a1,a2,a3,hr,show (x : Int) < (hs.length : Int) by omega,hml,show x < hs.length + 1 by omega,Nat.zero_add,hat,hm,show x + 1 ≤ hs.length + 1 by omega,hst,hM2,b4,p1,b5,q1,hb4,hb5,hbf,sT,cT,sO,cO,hstart,hstart4,n5]
end Go.Am.Top
