import Derived.Test.YtheppipmnfjdcaaDoorRdC2
set_option linter.unusedVariables false
set_option linter.unusedSimpArgs false
set_option maxRecDepth 10000
namespace Go.Am.Ring
open Go.Am.G
theorem pures_app : ∀ (a b : List LV),LV.pures (a ++ b) = (LV.pures a && LV.pures b)
  | [],b => by simp [LV.pures]
  | x :: a,b => by simp [LV.pures,pures_app a b,Bool.and_assoc]
theorem viewC_ints (k : Nat) (m : LMem) : ∀ (l : List Int) (r r' : List LV) (ids : List Nat),viewC (k + 2) m r = some (r',ids) → viewC (k + 2 + l.length) m (l.map (LV.int .i64) ++ r) = some (l.map (LV.int .i64) ++ r',ids)
  | [],r,r',ids,h => h
  | x :: l,r,r',ids,h => by
    have ih := viewC_ints k m l r r' ids h
    have e : view (k + 2 + l.length) m (.int .i64 x) = some (.int .i64 x,[]) := by
      obtain ⟨j,hj⟩ : ∃ j,k + 2 + l.length = j + 1 := ⟨k + 1 + l.length,by omega⟩
      rw [hj]; simp only [view]
    rw [List.length_cons,show k + 2 + (l.length + 1) = k + 2 + l.length + 1 by omega,List.map_cons,List.cons_append,viewC.eq_def]
    simp only [e,ih]
    rfl
def tabV (n : Nat) (P : List (Nat × Nat)) (may : Nat → Nat → Bool) (g : Nat) (first cap : List LV) : List LV :=
  cellsT n (ltL P) (.func g first cap) (.lst false true 1 (2 ^ n) ((Ft may P n (2 ^ n) 0).map (LV.int .i64))) (.lst false true 1 (2 ^ n) ((Wt may P n (2 ^ n) 0).map (LV.int .i64)))
theorem tab_view (n : Nat) (P : List (Nat × Nat)) (may : Nat → Nat → Bool) (g : Nat) (first cap : List LV) (hp : LV.pures first = true ∧ LV.pures cap = true) (S : Nat) (hS : S = 2 ^ n) :
    view 100 (TM (Ft may P n S 0) (Wt may P n S 0) n P (.func g first cap) S) (.ptr 2 0 40) = some (.elt (tabV n P may g first cap) 0,[2,0,1]) := by
  have hlen := cT_len n (ltL P) (.func g first cap) (.sl 0 0 S S 0 1 S) (.sl 1 0 S S 0 1 S) (ltL_len P)
  have hF := Ft_len may P n S 0
  have hW := Wt_len may P n S 0
  have hv : ∀ (i : Nat) (L : List Int) (k : Nat) (m : LMem),m[i]? = some ⟨L.map (LV.int .i64),true⟩ → L.length = S → view (k + 3) m (.sl i 0 S S 0 1 S) = some (.lst false true 1 S (L.map (LV.int .i64)),[i]) := by
    intro i L k m h hL
    have h2 : ((L.map (LV.int .i64)).drop 0).take (S * 1) = L.map (LV.int .i64) := by rw [List.drop_zero,List.take_of_length_le (by simp [hL])]
    simp only [view,h,h2,viewL_pures _ _ _ (pures_int .i64 L)]
    simp [nble,hL]
  unfold TM
  generalize hM : ([⟨(Ft may P n S 0).map (LV.int .i64),true⟩,⟨(Wt may P n S 0).map (LV.int .i64),true⟩,⟨cellsT n (ltL P) (.func g first cap) (.sl 0 0 S S 0 1 S) (.sl 1 0 S S 0 1 S),true⟩] : LMem) = M
  have m0 : M[0]? = some ⟨(Ft may P n S 0).map (LV.int .i64),true⟩ := by rw [← hM]; rfl
  have m1 : M[1]? = some ⟨(Wt may P n S 0).map (LV.int .i64),true⟩ := by rw [← hM]; rfl
  have m2 : M[2]? = some ⟨cellsT n (ltL P) (.func g first cap) (.sl 0 0 S S 0 1 S) (.sl 1 0 S S 0 1 S),true⟩ := by rw [← hM]; rfl
  have t : viewC 61 M [.func g first cap,.sl 0 0 S S 0 1 S,.sl 1 0 S S 0 1 S] = some ([.func g first cap,.lst false true 1 S ((Ft may P n S 0).map (LV.int .i64)),.lst false true 1 S ((Wt may P n S 0).map (LV.int .i64))],[0,1]) := by
    have e1 : view 60 M (.func g first cap) = some (.func g first cap,[]) := by
      simp only [view,viewL_pures _ _ _ hp.1,viewL_pures _ _ _ hp.2]; rfl
    rw [viewC.eq_def]
    simp only [e1]
    rw [viewC.eq_def]
    simp only [hv 0 _ 56 M m0 hF]
    rw [viewC.eq_def]
    simp only [hv 1 _ 55 M m1 hW]
    rw [viewC.eq_def]
    rfl
  have t2 := viewC_ints 59 M (ltL P) _ _ _ t
  rw [ltL_len] at t2
  have t3 : viewC 98 M (cellsT n (ltL P) (.func g first cap) (.sl 0 0 S S 0 1 S) (.sl 1 0 S S 0 1 S)) = some (cellsT n (ltL P) (.func g first cap) (.lst false true 1 S ((Ft may P n S 0).map (LV.int .i64))) (.lst false true 1 S ((Wt may P n S 0).map (LV.int .i64))),[0,1]) := by
    unfold cellsT
    rw [viewC.eq_def]
    simp only [view]
    rw [show viewC 97 M = viewC (59 + 2 + 36) M from rfl,t2]
    rfl
  have hpu : LV.pures (cellsT n (ltL P) (.func g first cap) (.sl 0 0 S S 0 1 S) (.sl 1 0 S S 0 1 S)) = false := by
    simp [cellsT,LV.pures,LV.pure,pures_app]
  rw [view.eq_def]
  simp only [m2,hlen,nbeq,decide_true,cond_true]
  rw [viewL.eq_def]
  subst hS
  cases hc : cellsT n (ltL P) (.func g first cap) (.sl 0 0 (2 ^ n) (2 ^ n) 0 1 (2 ^ n)) (.sl 1 0 (2 ^ n) (2 ^ n) 0 1 (2 ^ n)) with
  | nil => simp [cellsT] at hc
  | cons a r =>
    rw [← hc]
    simp only [hpu,cond_false]
    rw [t3]
    rfl
theorem filled_c (n : Nat) (P : List (Nat × Nat)) (G : Good n P) (nl ex : Bool) (sz : Nat) (g : Nat) (first cap : List LV) (hp : LV.pures first = true ∧ LV.pures cap = true) (hu : LV.under 3 (.func g first cap) = true) (may : Nat → Nat → Bool)
    (hmay : ∀ (f d : Nat) m,f < n → d < 2 ^ n → clF LP g (first ++ ([.int .i64 (f : Int),.int .i64 (d : Int)] ++ cap)) m = some (.P,.bool (may f d),m)) (m : LMem) :
    clF LP n_ring_filled [.int .i64 (n : Int),FN nl ex sz P,.func g first cap] m = some (.P,.elt (tabV n P may g first cap) 0,m) := by
  have hn : 1 ≤ n ∧ n ≤ 6 := ⟨G.pos,G.le6⟩
  obtain ⟨A,hA⟩ : ∃ A,2 ^ n = A + 1 := ⟨2 ^ n - 1,by have := Nat.two_pow_pos n; omega⟩
  have hA64 : A + 1 ≤ 64 := by
    have : 2 ^ n ≤ 2 ^ 6 := Nat.pow_le_pow_right (by omega) hn.2
    omega
  have h0 := fill0_loop n g first cap hu (List.replicate (A + 1) 0) (List.replicate (A + 1) 0) (A + 1) (A : Int) nl ex sz P G P.length 0 (by omega)
  have h2 := fill2_loop n hn P G.le12 (fun p hp => (G.lt p hp).2) g first cap may hmay A hA A (Nat.le_refl _)
  rw [Ft_top may P n A hA,Wt_top may P n A hA] at h2
  have hsl := sshl (i := n) (by omega)
  rw [hA] at hsl
  have hw1 : IntKind.i64.wrap (((A + 1 : Nat) : Int) - 1) = (A : Int) := by rw [wrap_in (by omega)]; omega
  have hw2 : IntKind.i64.wrap ((A : Int) + 1) = ((A + 1 : Nat) : Int) := wrap_succ (by omega)
  have hw3 : IntKind.i64.wrap ((A : Int) - 1) = (A : Int) - 1 := wrap_in (by omega)
  have hb1 : (A + 1) * 8 ≤ roomMost := by simp only [roomMost]; omega
  have hb2 : A + 1 ≤ roomMost := by simp only [roomMost]; omega
  have hz := zeros_int .i64 (A + 1)
  have hst := set_int .i64 (List.replicate (A + 1) (0 : Int)) A 1 (by simp)
  have hml : ((List.replicate (A + 1) (0 : Int)).map (LV.int .i64)).length = A + 1 := by simp
  have h39 := cT_39 n (ltL P) (.func g first cap) (.sl 0 0 (A + 1) (A + 1) 0 1 (A + 1)) (.sl 1 0 (A + 1) (A + 1) 0 1 (A + 1)) (ltL_len P)
  have hlen := cT_len n (ltL P) (.func g first cap) (.sl 0 0 (A + 1) (A + 1) 0 1 (A + 1)) (.sl 1 0 (A + 1) (A + 1) 0 1 (A + 1)) (ltL_len P)
  have hbox : cellsT n (ltL []) (.func g first cap) (.sl 0 0 (A + 1) (A + 1) 0 1 (A + 1)) (.sl 1 0 (A + 1) (A + 1) 0 1 (A + 1)) = [.int .i64 (n : Int),.int .i64 0,.int .i64 0,.int .i64 0,.int .i64 0,.int .i64 0,.int .i64 0,.int .i64 0,.int .i64 0,.int .i64 0,.int .i64 0,.int .i64 0,.int .i64 0,.int .i64 0,.int .i64 0,.int .i64 0,.int .i64 0,.int .i64 0,.int .i64 0,.int .i64 0,.int .i64 0,.int .i64 0,.int .i64 0,.int .i64 0,.int .i64 0,.int .i64 0,.int .i64 0,.int .i64 0,.int .i64 0,.int .i64 0,.int .i64 0,.int .i64 0,.int .i64 0,.int .i64 0,.int .i64 0,.int .i64 0,.int .i64 0,.func g first cap,.sl 0 0 (A + 1) (A + 1) 0 1 (A + 1),.sl 1 0 (A + 1) (A + 1) 0 1 (A + 1)] := rfl
  refine call_Pv lp_ring_filled rfl (by simp [LV.pures,LV.pure,hp]) (m1 := TM (Ft may P n (A + 1) 0) (Wt may P n (A + 1) 0) n P (.func g first cap) (A + 1)) (v := .ptr 2 0 40) (ids := [2,0,1]) ?_ (tab_view n P may g first cap hp (A + 1) hA.symm) m
  simp only [TM,List.take_zero,Int.natCast_zero,hbox] at h0
  simp only [TM] at h2
  simp only [FN_eq] at h0 ⊢
  simp only [ring_filled,ring_filled.B,exF_seq,exF_region,exF_block,exF_ret,runL,wantL,stepL,evL,evC,LEnv.at,putL,loadFine,loadL,cellsAt,Trk.putNew,Trk.up,Trk.touch,Trk.gives,Trk.calm,Trk.hit,opdsOf,Trk.fresh,LEnv.keep,LEnv.ofFrom,List.map_cons,List.map_nil,nbeq,nble,nblt,ofAV,ofAVs,lenL,bin_add,bin_sub,natL_nat,List.any_cons,List.any_nil,Bool.or_false,Bool.or_true,Bool.and_true,Bool.false_and,Bool.not_true,Bool.not_false,Nat.reduceEqDiff,decide_true,decide_false,cond_true,cond_false,List.filter_nil,Nat.reduceAdd,Nat.reduceLeDiff,reduceCtorEq,List.length_nil,List.length_cons,Nat.mul_one,eq_self,retL,resultsL,resAllL,resOfL,List.append_nil,List.nil_append,List.cons_append,LV.cells,allocL,List.getElem?_cons_zero,List.getElem?_cons_succ,storeL,spliceL,List.take_zero,List.take_succ_cons,List.drop_zero,List.drop_succ_cons,List.drop_nil,Nat.le_refl,List.set_cons_zero,List.set_cons_succ,LV.scalar,List.all_cons,List.all_nil,fillL,hsl,hw1,hw2,hw3,hb1,hb2,hz,h0,h39,hlen,hml,hst,show A < A + 1 by omega,Nat.zero_add,h2]
  rfl
theorem any_c (f d : Int) (m : LMem) : clF LP n_ring_anyForm [.int .i64 f,.int .i64 d] m = some (.P,.bool true,m) := by
  refine call_P lp_ring_anyForm rfl rfl (m1 := []) ?_ rfl m
  simp only [ring_anyForm,ring_anyForm.B,exF_seq,exF_region,exF_ret,runL,wantL,stepL,evL,evC,LEnv.at,putL,loadFine,LEnv.keep,LEnv.ofFrom,List.map_cons,List.map_nil,nbeq,decide_true,cond_true,Nat.reduceAdd,eq_self,retL,resultsL,resAllL,resOfL]
abbrev tabA (n : Nat) (P : List (Nat × Nat)) : List LV := tabV n P anyM n_ring_anyForm [] []
theorem filledA_c (n : Nat) (P : List (Nat × Nat)) (G : Good n P) (nl ex : Bool) (sz : Nat) (m : LMem) :
    clF LP n_ring_filled [.int .i64 (n : Int),FN nl ex sz P,.func n_ring_anyForm [] []] m = some (.P,.elt (tabA n P) 0,m) :=
  filled_c n P G nl ex sz n_ring_anyForm [] [] ⟨rfl,rfl⟩ rfl anyM (fun f d m _ _ => any_c f d m) m
theorem tab_38 (n : Nat) (P : List (Nat × Nat)) (may : Nat → Nat → Bool) (g : Nat) (first cap : List LV) : (tabV n P may g first cap)[38]? = some (.lst false true 1 (2 ^ n) ((Ft may P n (2 ^ n) 0).map (LV.int .i64))) := cT_38 _ _ _ _ _ (ltL_len P)
theorem tab_39 (n : Nat) (P : List (Nat × Nat)) (may : Nat → Nat → Bool) (g : Nat) (first cap : List LV) : (tabV n P may g first cap)[39]? = some (.lst false true 1 (2 ^ n) ((Wt may P n (2 ^ n) 0).map (LV.int .i64))) := cT_39 _ _ _ _ _ (ltL_len P)
theorem tF_at (may : Nat → Nat → Bool) (P : List (Nat × Nat)) (n d : Nat) (h : d < 2 ^ n) : ((Ft may P n (2 ^ n) 0).map (LV.int .i64))[d]? = some (.int .i64 (((fwD may P n d).1 : Nat) : Int)) := by
  rw [List.getElem?_map,Ft_at _ _ _ _ _ _ h (Nat.zero_le _)]; rfl
theorem tW_at (may : Nat → Nat → Bool) (P : List (Nat × Nat)) (n d : Nat) (h : d < 2 ^ n) : ((Wt may P n (2 ^ n) 0).map (LV.int .i64))[d]? = some (.int .i64 (((fwD may P n d).2 : Nat) : Int)) := by
  rw [List.getElem?_map,Wt_at _ _ _ _ _ _ h (Nat.zero_le _)]; rfl
theorem fewest_c (n : Nat) (P : List (Nat × Nat)) (G : Good n P) (nl ex : Bool) (sz : Nat) (m : LMem) :
    clF LP n_ring_Fewest [.int .i64 (n : Int),FN nl ex sz P] m = some (.P,.tup [.int .i64 (((fwD anyM P n 0).1 : Nat) : Int),.int .i64 0],m) := by
  have hc := fun m => check_c nl ex sz (n : Int) (P.map castP) (by have := G.le12; simp; omega) m
  rw [chkF_of G] at hc
  have hf := fun m => filledA_c n P G nl ex sz m
  have h38 := tab_38 n P anyM n_ring_anyForm [] []
  have hat := tF_at anyM P n 0 (Nat.two_pow_pos n)
  have hpos := Nat.two_pow_pos n
  refine call_P lp_ring_Fewest rfl (by simp [LV.pures,LV.pure]) (m1 := []) ?_ rfl m
  simp only [ring_Fewest,ring_Fewest.B,exF_seq,exF_region,exF_cond,exF_ret,exF_skip,runL,wantL,stepL,evL,evC,LEnv.at,putL,loadFine,loadL,cellsAt,Trk.putNew,Trk.up,Trk.touch,Trk.gives,Trk.calm,opdsOf,Trk.fresh,LEnv.keep,LEnv.ofFrom,List.map_cons,List.map_nil,nbeq,nble,nblt,ofAVs,bin_neq,natL_zero,List.any_cons,List.any_nil,Bool.or_false,Bool.true_or,Bool.and_true,Bool.true_and,Bool.not_true,Bool.not_false,Nat.reduceEqDiff,decide_true,decide_false,cond_true,cond_false,List.filter_nil,List.filter_cons,Nat.reduceAdd,Nat.reduceLeDiff,reduceCtorEq,List.length_nil,Nat.mul_one,if_true,eq_self,retL,resultsL,resAllL,resOfL,List.append_nil,List.nil_append,not_true_eq_false,ne_eq,List.drop_zero,hc,hf,Nat.zero_add,h38,hpos,hat]
theorem count_c (n : Nat) (P : List (Nat × Nat)) (G : Good n P) (nl ex : Bool) (sz : Nat) (m : LMem) :
    clF LP n_ring_Count [.int .i64 (n : Int),FN nl ex sz P] m = some (.P,.tup [.int .i64 (((fwD anyM P n 0).2 : Nat) : Int),.int .i64 0],m) := by
  have hc := fun m => check_c nl ex sz (n : Int) (P.map castP) (by have := G.le12; simp; omega) m
  rw [chkF_of G] at hc
  have hf := fun m => filledA_c n P G nl ex sz m
  have h38 := tab_39 n P anyM n_ring_anyForm [] []
  have hat := tW_at anyM P n 0 (Nat.two_pow_pos n)
  have hpos := Nat.two_pow_pos n
  refine call_P lp_ring_Count rfl (by simp [LV.pures,LV.pure]) (m1 := []) ?_ rfl m
  simp only [ring_Count,ring_Count.B,exF_seq,exF_region,exF_cond,exF_ret,exF_skip,runL,wantL,stepL,evL,evC,LEnv.at,putL,loadFine,loadL,cellsAt,Trk.putNew,Trk.up,Trk.touch,Trk.gives,Trk.calm,opdsOf,Trk.fresh,LEnv.keep,LEnv.ofFrom,List.map_cons,List.map_nil,nbeq,nble,nblt,ofAVs,bin_neq,natL_zero,List.any_cons,List.any_nil,Bool.or_false,Bool.true_or,Bool.and_true,Bool.true_and,Bool.not_true,Bool.not_false,Nat.reduceEqDiff,decide_true,decide_false,cond_true,cond_false,List.filter_nil,List.filter_cons,Nat.reduceAdd,Nat.reduceLeDiff,reduceCtorEq,List.length_nil,Nat.mul_one,if_true,eq_self,retL,resultsL,resAllL,resOfL,List.append_nil,List.nil_append,not_true_eq_false,ne_eq,List.drop_zero,hc,hf,Nat.zero_add,h38,hpos,hat]
end Go.Am.Ring
set_option linter.unusedVariables false
set_option linter.unusedSimpArgs false
namespace Go.Am.Ring
def pathC (P : List (Nat × Nat)) : Nat → List Nat → Nat
  | _,[] => 0
  | done,f :: r => costN P f done + pathC P (done ||| 2 ^ f) r
def compsU (may : Nat → Nat → Bool) (n : Nat) : Nat → Nat → List (List Nat)
  | 0,_ => [[]]
  | u + 1,done => (List.range n).flatMap fun f => if done.testBit f || !may f done then [] else (compsU may n u (done ||| 2 ^ f)).map (f :: ·)
structure IsMin (L : List Nat) (r : Nat × Nat) : Prop where
  le : ∀ x ∈ L,r.1 ≤ x
  cnt : r.2 = L.count r.1
  nil : L = [] → r.1 = 13
  mem : L ≠ [] → r.1 ∈ L
theorem count_shift (c m : Nat) : ∀ (L : List Nat),(L.map (c + ·)).count (c + m) = L.count m
  | [] => rfl
  | a :: L => by
    rw [List.map_cons,List.count_cons,List.count_cons,count_shift c m L]
    congr 1
    by_cases h : a = m
    · subst h; simp
    · have : ¬ c + a = c + m := by omega
      simp [h,this]
theorem count_zero (L : List Nat) (m : Nat) (h : m ∉ L) : L.count m = 0 := List.count_eq_zero.2 h
theorem isMin_step (c : Nat) (L L2 : List Nat) (acc r2 : Nat × Nat) (h : IsMin L acc) (h2 : IsMin L2 r2) (hb : ∀ x ∈ L,x ≤ 12) (hb2 : ∀ x ∈ L2,c + x ≤ 12) :
    IsMin (L ++ L2.map (c + ·)) (if c + r2.1 < acc.1 then (c + r2.1,r2.2) else if c + r2.1 = acc.1 then (acc.1,acc.2 + r2.2) else acc) := by
  have ha : acc.1 ≤ 13 := by
    by_cases e : L = []
    · rw [h.nil e]; omega
    · have := hb _ (h.mem e); omega
  by_cases e2 : L2 = []
  · subst e2
    have hr := h2.nil rfl
    have hr2 : r2.2 = 0 := by rw [h2.cnt]; rfl
    rw [if_neg (by omega)]
    simp only [List.map_nil,List.append_nil,hr2,Nat.add_zero]
    split
    · exact h
    · exact h
  · have hm := h2.mem e2
    have hc := hb2 _ hm
    have hsh := count_shift c r2.1 L2
    have ne : L ++ L2.map (c + ·) = [] → False := by simp [e2]
    have hin : c + r2.1 ∈ L2.map (c + ·) := List.mem_map.2 ⟨_,hm,rfl⟩
    have hge : ∀ y ∈ L2.map (c + ·),c + r2.1 ≤ y := by
      intro y hy
      obtain ⟨x,hx,rfl⟩ := List.mem_map.1 hy
      have := h2.le x hx
      omega
    by_cases c1 : c + r2.1 < acc.1
    · rw [if_pos c1]
      refine ⟨?_,?_,fun e => (ne e).elim,fun _ => List.mem_append.2 (.inr hin)⟩
      · intro x hx
        rcases List.mem_append.1 hx with hx | hx
        · have := h.le x hx; simp only; omega
        · exact hge x hx
      · simp only
        rw [List.count_append,hsh,count_zero L _ (fun hx => by have := h.le _ hx; omega),h2.cnt,Nat.zero_add]
    · rw [if_neg c1]
      by_cases c2 : c + r2.1 = acc.1
      · rw [if_pos c2]
        refine ⟨?_,?_,fun e => (ne e).elim,fun _ => List.mem_append.2 (.inr (c2 ▸ hin))⟩
        · intro x hx
          rcases List.mem_append.1 hx with hx | hx
          · exact h.le x hx
          · have := hge x hx; simp only; omega
        · simp only
          rw [List.count_append,← h.cnt,← c2,hsh,h2.cnt]
      · rw [if_neg c2]
        have hL : L ≠ [] := fun e => by have := h.nil e; omega
        refine ⟨?_,?_,fun e => (ne e).elim,fun _ => List.mem_append.2 (.inl (h.mem hL))⟩
        · intro x hx
          rcases List.mem_append.1 hx with hx | hx
          · exact h.le x hx
          · have := hge x hx; omega
        · rw [List.count_append,← h.cnt,count_zero (L2.map (c + ·)) _ (fun hx => by have := hge _ hx; omega),Nat.add_zero]
def restC (P : List (Nat × Nat)) (done : Nat) : Nat := P.countP fun p => !done.testBit p.1
theorem restC_le (P : List (Nat × Nat)) (done : Nat) : restC P done ≤ P.length := List.countP_le_length
theorem restC_next (P : List (Nat × Nat)) (done f : Nat) (hb : done.testBit f = false) : costN P f done + restC P (done ||| 2 ^ f) ≤ restC P done := by
  induction P with
  | nil => simp [costN,restC]
  | cons p P ih =>
    unfold costN restC at *
    rw [List.countP_cons,List.countP_cons,List.countP_cons,or_bit]
    generalize (P.countP fun p => p.1 == f && done.testBit p.2) = x1 at *
    generalize (P.countP fun p => !(done ||| 2 ^ f).testBit p.1) = x2 at *
    generalize (P.countP fun p => !done.testBit p.1) = x3 at *
    by_cases c : p.1 = f
    · subst c
      simp [hb]
      split <;> omega
    · have e1 : (p.1 == f) = false := by simpa using c
      have e2 : decide (f = p.1) = false := by simpa using fun e : f = p.1 => c e.symm
      simp only [e1,e2,Bool.false_and,Bool.or_false]
      simp
      omega
theorem pathC_le (may : Nat → Nat → Bool) (P : List (Nat × Nat)) (n : Nat) : ∀ (u done : Nat) (o : List Nat),o ∈ compsU may n u done → pathC P done o ≤ restC P done
  | 0,done,o,h => by
    simp only [compsU,List.mem_singleton] at h
    subst h; simp [pathC]
  | u + 1,done,o,h => by
    simp only [compsU,List.mem_flatMap] at h
    obtain ⟨f,hf,ho⟩ := h
    split at ho
    · simp at ho
    · rename_i hb
      obtain ⟨r,hr,rfl⟩ := List.mem_map.1 ho
      have := pathC_le may P n u _ r hr
      have hb : done.testBit f = false := by
        cases c : done.testBit f
        · rfl
        · simp [c] at hb
      have := restC_next P done f hb
      rw [pathC]; omega
theorem fwU_min (may : Nat → Nat → Bool) (P : List (Nat × Nat)) (hP : P.length ≤ 12) (n : Nat) : ∀ (u done : Nat),IsMin ((compsU may n u done).map (pathC P done)) (fwU may P n u done)
  | 0,done => by
    refine ⟨?_,?_,?_,?_⟩ <;> simp [compsU,fwU,pathC]
  | u + 1, done => by
    rw [compsU,fwU,List.map_flatMap]
    have key : ∀ (l : List Nat),IsMin (l.flatMap fun f => (if done.testBit f || !may f done then [] else (compsU may n u (done ||| 2 ^ f)).map (f :: ·)).map (pathC P done)) (l.foldl (fstep may P done (fwU may P n u)) (13,0)) := by
      intro l
      rw [← List.reverse_reverse l]
      generalize l.reverse = k
      induction k with
      | nil => exact ⟨by simp,rfl,fun _ => rfl,by simp⟩
      | cons f k ih =>
        rw [List.reverse_cons,List.foldl_append,List.flatMap_append,List.foldl_cons,List.foldl_nil,List.flatMap_singleton]
        generalize k.reverse.foldl (fstep may P done (fwU may P n u)) (13,0) = acc at *
        by_cases hb : (done.testBit f || !may f done) = true
        · rw [if_pos hb]
          have : fstep may P done (fwU may P n u) acc f = acc := by unfold fstep; rw [if_pos hb]
          rw [this,List.map_nil,List.append_nil]
          exact ih
        · have hs : fstep may P done (fwU may P n u) acc f = if costN P f done + (fwU may P n u (done ||| 2 ^ f)).1 < acc.1 then (costN P f done + (fwU may P n u (done ||| 2 ^ f)).1,(fwU may P n u (done ||| 2 ^ f)).2)
              else if costN P f done + (fwU may P n u (done ||| 2 ^ f)).1 = acc.1 then (acc.1,acc.2 + (fwU may P n u (done ||| 2 ^ f)).2) else acc := by unfold fstep; rw [if_neg hb]
          rw [if_neg hb,hs]
          have hbit : done.testBit f = false := by
            cases c : done.testBit f
            · rfl
            · simp [c] at hb
          have hm : ((compsU may n u (done ||| 2 ^ f)).map (f :: ·)).map (pathC P done) = ((compsU may n u (done ||| 2 ^ f)).map (pathC P (done ||| 2 ^ f))).map (costN P f done + ·) := by
            rw [List.map_map,List.map_map]; rfl
          rw [hm]
          refine isMin_step _ _ _ _ _ ih (fwU_min may P hP n u (done ||| 2 ^ f)) ?_ ?_
          · intro x hx
            obtain ⟨g,_,hx⟩ := List.mem_flatMap.1 hx
            obtain ⟨o,ho,rfl⟩ := List.mem_map.1 hx
            split at ho
            · simp at ho
            · rename_i hg
              obtain ⟨r,hr,rfl⟩ := List.mem_map.1 ho
              have h1 := pathC_le may P n u _ r hr
              have hgb : done.testBit g = false := by
                cases c : done.testBit g
                · rfl
                · simp [c] at hg
              have h2 := restC_next P done g hgb
              have h3 := restC_le P done
              rw [pathC]; omega
          · intro x hx
            obtain ⟨r,hr,rfl⟩ := List.mem_map.1 hx
            have h1 := pathC_le may P n u _ r hr
            have h2 := restC_next P done f hbit
            have h3 := restC_le P done
            omega
    exact key (List.range n)
end Go.Am.Ring
set_option linter.unusedVariables false
set_option linter.unusedSimpArgs false
namespace Go.Am.Ring
abbrev ci (l : List Nat) : List Int := l.map fun x : Nat => (x : Int)
theorem ci_len (l : List Nat) : (ci l).length = l.length := by simp
theorem ci_mem (l : List Nat) (x : Nat) : (x : Int) ∈ ci l ↔ x ∈ l := by
  simp only [List.mem_map]
  constructor
  · rintro ⟨y,hy,e⟩
    have : y = x := by omega
    exact this ▸ hy
  · intro h; exact ⟨x,h,rfl⟩
def pos (o : List Nat) (x : Nat) : Int := plc (ci o) (x : Int)
theorem plcG_shift (x : Int) : ∀ (l : List Int) (k : Nat),plcG x (k + 1) l = if x ∈ l then plcG x k l + 1 else -1
  | [],k => by simp [plcG]
  | a :: r,k => by
    have := plcG_shift x r (k + 1)
    rw [plcG,plcG]
    by_cases c : a = x
    · subst c; simp
    · rw [if_neg c,if_neg c,this]
      simp [Ne.symm c]
theorem pos_cons (f : Nat) (r : List Nat) (x : Nat) : pos (f :: r) x = if f = x then 0 else if x ∈ r then pos r x + 1 else -1 := by
  unfold pos plc
  rw [show ci (f :: r) = (f : Int) :: ci r from rfl,plcG]
  by_cases c : f = x
  · subst c; simp
  · rw [if_neg (by omega),if_neg c,plcG_shift]
    simp only [ci_mem]
theorem pos_mem (o : List Nat) (x : Nat) : 0 ≤ pos o x ↔ x ∈ o := by unfold pos; rw [plc_mem,ci_mem]
theorem pos_not (o : List Nat) (x : Nat) (h : x ∉ o) : pos o x = -1 := by
  have h1 : ¬ 0 ≤ pos o x := fun c => h ((pos_mem o x).1 c)
  have h2 := (plcG_lt (x : Int) (ci o) 0).1
  have h3 : pos o x = plcG (x : Int) 0 (ci o) := rfl
  omega
theorem pos_ge (o : List Nat) (x : Nat) : -1 ≤ pos o x := (plcG_lt (x : Int) (ci o) 0).1
def contr (P : List (Nat × Nat)) (o : List Nat) : Nat := P.countP fun p => decide (pos o p.2 < pos o p.1)
theorem agnF_length (o : List Nat) : ∀ (P : List (Nat × Nat)) (k : Nat),(agnF (ci o) k (P.map castP)).length = contr P o
  | [],k => rfl
  | p :: P,k => by
    have ih := agnF_length o P (k + 1)
    rw [List.map_cons,agnF]
    unfold contr at *
    rw [List.countP_cons]
    have e : plc (ci o) (castP p).2 < plc (ci o) (castP p).1 ↔ pos o p.2 < pos o p.1 := Iff.rfl
    by_cases c : pos o p.2 < pos o p.1
    · rw [if_pos (e.2 c),List.length_cons,ih]; simp [c]
    · rw [if_neg fun h => c (e.1 h),ih]; simp [c]
theorem contr_path (P : List (Nat × Nat)) : ∀ (r : List Nat) (done : Nat),r.Nodup → (∀ x ∈ r,done.testBit x = false) → (∀ p ∈ P,p.2 ∈ r ∨ done.testBit p.2 = true) → pathC P done r = contr P r
  | [],done,_,_,_ => by
    unfold contr
    rw [pathC,eq_comm,List.countP_eq_zero]
    intro p _
    simp [pos_not]
  | f :: r, done, hn,hd,hp => by
    have hf := hd f (by simp)
    obtain ⟨hfr,hn⟩ := List.nodup_cons.1 hn
    rw [pathC,contr_path P r (done ||| 2 ^ f) hn]
    · clear hn
      unfold costN contr
      induction P with
      | nil => rfl
      | cons p P ih =>
        have ih := ih fun q hq => hp q (by simp [hq])
        have hp := hp p (by simp)
        rw [List.countP_cons,List.countP_cons,List.countP_cons,← ih]
        have e : ((if (p.1 == f && done.testBit p.2) = true then 1 else 0) + if decide (pos r p.2 < pos r p.1) = true then 1 else 0) = if decide (pos (f :: r) p.2 < pos (f :: r) p.1) = true then 1 else 0 := by
          simp only [decide_eq_true_eq,pos_cons]
          have g1 := pos_ge r p.1
          have g2 := pos_ge r p.2
          have n1 := pos_not r p.1
          have n2 := pos_not r p.2
          have m1 := pos_mem r p.1
          have m2 := pos_mem r p.2
          clear ih
          by_cases c1 : f = p.1
          · have n0 := n1 (fun c => hfr (c1 ▸ c))
            have c1b : (p.1 == f) = true := by simp [c1]
            by_cases c2 : f = p.2
            · rw [if_pos c2,if_pos c1,n0]
              have hz : done.testBit p.2 = false := c2 ▸ hf
              simp [hz]
              omega
            · rw [if_pos c1,n0]
              by_cases c3 : p.2 ∈ r
              · have hz := hd p.2 (by simp [c3])
                have := m2.2 c3
                rw [if_neg c2,if_pos c3,hz,if_neg (show ¬ pos r p.2 + 1 < 0 by omega),if_neg (show ¬ pos r p.2 < -1 by omega)]
                simp
              · have hz : done.testBit p.2 = true := by
                  rcases hp with hp | hp
                  · simp [c3,Ne.symm c2] at hp
                  · exact hp
                have := n2 c3
                rw [if_neg c2,if_neg c3]
                simp [hz,c1]
                omega
          · have c1' : (p.1 == f) = false := by simp; omega
            simp only [c1',Bool.false_and,Bool.false_eq_true,if_false,Nat.zero_add,if_neg c1]
            by_cases c4 : p.1 ∈ r
            · have := m1.2 c4
              by_cases c2 : f = p.2
              · have h2 : p.2 ∉ r := c2 ▸ hfr
                have := n2 h2
                simp only [c2,if_true,c4]
                rw [if_pos (by omega),if_pos (by omega)]
              · simp only [c2,if_false,c4,if_true]
                by_cases c3 : p.2 ∈ r
                · simp only [c3,if_true]
                  congr 1
                  rw [eq_iff_iff]; omega
                · have := n2 c3
                  simp only [c3,if_false]
                  rw [if_pos (by omega),if_pos (by omega)]
            · have := n1 c4
              simp only [c4,if_false]
              rw [if_neg (by omega),if_neg (by split <;> first | omega | (split <;> omega))]
        omega
    · intro x hx
      rw [or_bit,hd x (by simp [hx])]
      have : ¬ f = x := fun e => hfr (e ▸ hx)
      simp [this]
    · intro p hq
      rcases hp p hq with h | h
      · rcases List.mem_cons.1 h with h | h
        · right; rw [or_bit,h]; simp
        · exact .inl h
      · right; rw [or_bit,h]; simp
theorem comps_ok (may : Nat → Nat → Bool) (n : Nat) : ∀ (u done : Nat),leftN n done = u → ∀ o ∈ compsU may n u done,o.Nodup ∧ o.length = u ∧ (∀ x ∈ o,x < n ∧ done.testBit x = false) ∧ (∀ x,x < n → x ∈ o ∨ done.testBit x = true)
  | 0,done,hu,o,ho => by
    simp only [compsU,List.mem_singleton] at ho
    subst ho
    refine ⟨List.nodup_nil,rfl,by simp,fun x hx => .inr ?_⟩
    unfold leftN at hu
    rw [List.countP_eq_zero] at hu
    have := hu x (List.mem_range.2 hx)
    simpa using this
  | u + 1,done,hu,o,ho => by
    simp only [compsU,List.mem_flatMap] at ho
    obtain ⟨f,hf,ho⟩ := ho
    have hf := List.mem_range.1 hf
    split at ho
    · simp at ho
    · rename_i hb
      obtain ⟨r,hr,rfl⟩ := List.mem_map.1 ho
      have hb : done.testBit f = false := by
        cases c : done.testBit f
        · rfl
        · simp [c] at hb
      have hl := leftN_next done f hb n hf
      obtain ⟨h1,h2,h3,h4⟩ := comps_ok may n u (done ||| 2 ^ f) (by omega) r hr
      have h5 : ∀ x ∈ r,done.testBit x = false ∧ ¬ f = x := by
        intro x hx
        have := (h3 x hx).2
        rw [or_bit] at this
        simpa using this
      refine ⟨List.nodup_cons.2 ⟨fun c => (h5 f c).2 rfl,h1⟩,by simp [h2],?_,?_⟩
      · intro x hx
        rcases List.mem_cons.1 hx with rfl | hx
        · exact ⟨hf,hb⟩
        · exact ⟨(h3 x hx).1,(h5 x hx).1⟩
      · intro x hx
        rcases h4 x hx with h | h
        · exact .inl (by simp [h])
        · rw [or_bit] at h
          by_cases c : f = x
          · exact .inl (by simp [c])
          · right; simpa [c] using h
theorem leftN_none (n : Nat) : leftN n 0 = n := by
  unfold leftN
  rw [List.countP_eq_length.2 (by simp),List.length_range]
abbrev ords (n : Nat) : List (List Nat) := compsU anyM n n 0
theorem ords_ok {n : Nat} {o : List Nat} (h : o ∈ ords n) : o.Nodup ∧ o.length = n ∧ (∀ x ∈ o,x < n) ∧ (∀ x,x < n → x ∈ o) := by
  obtain ⟨h1,h2,h3,h4⟩ := comps_ok anyM n n 0 (leftN_none n) o h
  exact ⟨h1,h2,fun x hx => (h3 x hx).1,fun x hx => by simpa using h4 x hx⟩
theorem path_contr {n : Nat} {P : List (Nat × Nat)} (may : Nat → Nat → Bool) (hP : ∀ p ∈ P,p.2 < n) {o : List Nat} (h : o ∈ compsU may n n 0) : pathC P 0 o = contr P o := by
  obtain ⟨h1,h2,h3,h4⟩ := comps_ok may n n 0 (leftN_none n) o h
  refine contr_path P o 0 h1 (by simp) fun p hp => ?_
  have := h4 p.2 (hP p hp)
  simpa using this
theorem fw_min (may : Nat → Nat → Bool) {n : Nat} {P : List (Nat × Nat)} (G : Good n P) : IsMin ((compsU may n n 0).map (contr P)) (fwD may P n 0) := by
  have h := fwU_min may P G.le12 n n 0
  have e : (compsU may n n 0).map (contr P) = (compsU may n n 0).map (pathC P 0) := List.map_congr_left fun o ho => (path_contr may (fun p hp => (G.lt p hp).2) ho).symm
  rw [e]
  unfold fwD
  rw [leftN_none]
  exact h
theorem ords_ne (n : Nat) : ∀ (u done : Nat),leftN n done = u → compsU anyM n u done ≠ []
  | 0,done,_ => by simp [compsU]
  | u + 1,done,hu => by
    have hne : leftN n done ≠ 0 := by omega
    unfold leftN at hne
    rw [Ne,List.countP_eq_zero] at hne
    have ⟨f,hf⟩ : ∃ f,f < n ∧ done.testBit f = false := by
      apply Classical.byContradiction
      intro c
      apply hne
      intro x hx
      cases hb : done.testBit x
      · exact absurd ⟨x,List.mem_range.1 hx,hb⟩ c
      · simp
    have ih := ords_ne n u (done ||| 2 ^ f) (by have := leftN_next done f hf.2 n hf.1; omega)
    intro c
    rw [compsU,List.flatMap_eq_nil_iff] at c
    have := c f (List.mem_range.2 hf.1)
    simp [hf.2,anyM] at this
    exact ih this
def gre (P : List (Nat × Nat)) (n : Nat) : Nat → Nat → List Nat
  | 0,_ => []
  | u + 1,done => match (List.range n).find? fun f => !done.testBit f && decide (costN P f done + (fwD anyM P n (done ||| 2 ^ f)).1 = (fwD anyM P n done).1) with
    | some f => f :: gre P n u (done ||| 2 ^ f)
    | none => []
theorem find_map {α β : Type} (g : α → β) (p : β → Bool) : ∀ l : List α,(l.map g).find? p = (l.find? (fun a => p (g a))).map g
  | [] => rfl
  | a :: l => by
    rw [List.map_cons,List.find?_cons,List.find?_cons]
    cases p (g a)
    · exact find_map g p l
    · rfl
theorem gre_first (P : List (Nat × Nat)) (hP : P.length ≤ 12) (n : Nat) : ∀ (u done : Nat),leftN n done = u → (compsU anyM n u done).find? (fun o => decide (pathC P done o = (fwD anyM P n done).1)) = some (gre P n u done)
  | 0,done,hu => by
    simp [compsU,gre,pathC,fwD,hu,fwU]
  | u + 1,done,hu => by
    have hmin := fwU_min anyM P hP n (u + 1) done
    have hne := ords_ne n (u + 1) done hu
    have e : fwD anyM P n done = fwU anyM P n (u + 1) done := by unfold fwD; rw [hu]
    rw [e]
    -- one form
    have one : ∀ f,f < n → done.testBit f = false → ((compsU anyM n u (done ||| 2 ^ f)).map (f :: ·)).find? (fun o => decide (pathC P done o = (fwU anyM P n (u + 1) done).1)) =
        if costN P f done + (fwD anyM P n (done ||| 2 ^ f)).1 = (fwU anyM P n (u + 1) done).1 then some (f :: gre P n u (done ||| 2 ^ f)) else none := by
      intro f hf hb
      have hl := leftN_next done f hb n hf
      have ih := gre_first P hP n u (done ||| 2 ^ f) (by omega)
      have hm2 := fwU_min anyM P hP n u (done ||| 2 ^ f)
      have e2 : fwD anyM P n (done ||| 2 ^ f) = fwU anyM P n u (done ||| 2 ^ f) := by unfold fwD; rw [show leftN n (done ||| 2 ^ f) = u by omega]
      rw [e2] at ih ⊢
      rw [find_map]
      by_cases c : costN P f done + (fwU anyM P n u (done ||| 2 ^ f)).1 = (fwU anyM P n (u + 1) done).1
      · rw [if_pos c,← c]
        have : (fun a => decide (pathC P done (f :: a) = costN P f done + (fwU anyM P n u (done ||| 2 ^ f)).1)) = fun a => decide (pathC P (done ||| 2 ^ f) a = (fwU anyM P n u (done ||| 2 ^ f)).1) := by
          funext a
          rw [decide_eq_decide,pathC]
          omega
        rw [this,ih]
        rfl
      · rw [if_neg c]
        rw [Option.map_eq_none_iff,List.find?_eq_none]
        intro r hr
        simp only [decide_eq_true_eq]
        intro hc
        rw [pathC] at hc
        have h1 := hm2.le _ (List.mem_map.2 ⟨r,hr,rfl⟩)
        have h2 : (fwU anyM P n (u + 1) done).1 ≤ costN P f done + (fwU anyM P n u (done ||| 2 ^ f)).1 := by
          have hne2 := ords_ne n u (done ||| 2 ^ f) (by omega)
          have h3 := hm2.mem (by simpa using hne2)
          obtain ⟨s,hs,hs2⟩ := List.mem_map.1 h3
          rw [← hs2]
          refine hmin.le _ (List.mem_map.2 ⟨f :: s,?_,rfl⟩)
          rw [compsU,List.mem_flatMap]
          exact ⟨f,List.mem_range.2 hf,by simp [hb,anyM]; exact hs⟩
        omega
    have hsome : ∃ o ∈ compsU anyM n (u + 1) done,pathC P done o = (fwU anyM P n (u + 1) done).1 := by
      obtain ⟨o,ho,he⟩ := List.mem_map.1 (hmin.mem (by simpa using hne))
      exact ⟨o,ho,he⟩
    have hfs : (compsU anyM n (u + 1) done).find? (fun o => decide (pathC P done o = (fwU anyM P n (u + 1) done).1)) =
        (List.range n).findSome? fun f => if (!done.testBit f && decide (costN P f done + (fwD anyM P n (done ||| 2 ^ f)).1 = (fwU anyM P n (u + 1) done).1)) then some (f :: gre P n u (done ||| 2 ^ f)) else none := by
      rw [compsU,List.find?_flatMap]
      have : ∀ l : List Nat,(∀ f ∈ l,f < n) → l.findSome? (fun x => List.find? (fun o => decide (pathC P done o = (fwU anyM P n (u + 1) done).1)) (if (done.testBit x || !anyM x done) = true then [] else (compsU anyM n u (done ||| 2 ^ x)).map (x :: ·))) =
          l.findSome? fun f => if (!done.testBit f && decide (costN P f done + (fwD anyM P n (done ||| 2 ^ f)).1 = (fwU anyM P n (u + 1) done).1)) then some (f :: gre P n u (done ||| 2 ^ f)) else none := by
        intro l
        induction l with
        | nil => intro _; rfl
        | cons f l ih =>
          intro hl
          rw [List.findSome?_cons,List.findSome?_cons,ih fun g hg => hl g (by simp [hg])]
          cases hb : done.testBit f
          · simp only [anyM,Bool.not_true,Bool.or_false,Bool.false_eq_true,if_false,Bool.not_false,Bool.true_and,decide_eq_true_eq]
            rw [one f (hl f (by simp)) hb]
          · simp
      exact this _ fun f hf => List.mem_range.1 hf
    have conv : ∀ l : List Nat,(l.findSome? fun f => if (!done.testBit f && decide (costN P f done + (fwD anyM P n (done ||| 2 ^ f)).1 = (fwU anyM P n (u + 1) done).1)) then some (f :: gre P n u (done ||| 2 ^ f)) else none) =
        (l.find? fun f => !done.testBit f && decide (costN P f done + (fwD anyM P n (done ||| 2 ^ f)).1 = (fwU anyM P n (u + 1) done).1)).map fun f => f :: gre P n u (done ||| 2 ^ f) := by
      intro l
      induction l with
      | nil => rfl
      | cons f l ih =>
        rw [List.findSome?_cons,List.find?_cons,ih]
        cases hq : (!done.testBit f && decide (costN P f done + (fwD anyM P n (done ||| 2 ^ f)).1 = (fwU anyM P n (u + 1) done).1)) <;> simp
    rw [hfs,conv,gre,e]
    cases hq : (List.range n).find? fun f => !done.testBit f && decide (costN P f done + (fwD anyM P n (done ||| 2 ^ f)).1 = (fwU anyM P n (u + 1) done).1) with
    | some f => rfl
    | none =>
      exfalso
      rw [conv,hq] at hfs
      obtain ⟨o,ho,he⟩ := hsome
      have := List.find?_eq_none.1 hfs o ho
      simp [he] at this
end Go.Am.Ring
set_option linter.unusedVariables false
set_option linter.unusedSimpArgs false
set_option maxRecDepth 10000
namespace Go.Am.Ring
open Go.Am.G
def mk : List Nat → Nat
  | [] => 0
  | x :: r => mk r ||| 2 ^ x
theorem mk_bit : ∀ (l : List Nat) (p : Nat),(mk l).testBit p = decide (p ∈ l)
  | [],p => by simp [mk]
  | x :: r,p => by
    rw [mk,or_bit,mk_bit r,Bool.eq_iff_iff]
    simp only [Bool.or_eq_true,decide_eq_true_eq,List.mem_cons]
    constructor
    · rintro (h | h)
      · exact .inr h
      · exact .inl h.symm
    · rintro (h | h)
      · exact .inr h.symm
      · exact .inl h
theorem mk_snoc (l : List Nat) (x : Nat) : mk (l ++ [x]) = mk l ||| 2 ^ x := by
  induction l with
  | nil => simp [mk]
  | cons a r ih => rw [List.cons_append,mk,mk,ih,Nat.or_assoc,Nat.or_assoc,Nat.or_comm (2 ^ x)]
def subO (n u : Nat) (b : List Nat) : List (List Nat) := (compsU anyM n u (mk b)).map (b ++ ·)
theorem subO_succ (n u : Nat) (b : List Nat) : subO n (u + 1) b = (List.range n).flatMap fun f => if f ∈ b then [] else subO n u (b ++ [f]) := by
  unfold subO
  rw [compsU,List.map_flatMap]
  congr 1
  funext f
  rw [mk_bit]
  by_cases h : f ∈ b
  · simp [h]
  · simp only [h,decide_false,anyM,Bool.not_true,Bool.or_false,Bool.false_eq_true,if_false,mk_snoc,List.map_map]
    apply List.map_congr_left
    intro o _
    simp
theorem subO_len (n : Nat) (hn : n ≤ 6) : ∀ (u : Nat) (b : List Nat),(subO n u b).length ≤ 6 ^ u
  | 0,b => by simp [subO,compsU]
  | u + 1,b => by
    rw [subO_succ,List.length_flatMap]
    have : ∀ l : List Nat,(l.map fun f => (if f ∈ b then [] else subO n u (b ++ [f])).length).sum ≤ l.length * 6 ^ u := by
      intro l
      induction l with
      | nil => simp
      | cons f l ih =>
        rw [List.map_cons,List.sum_cons,List.length_cons,Nat.add_mul,Nat.one_mul]
        have : (if f ∈ b then ([] : List (List Nat)) else subO n u (b ++ [f])).length ≤ 6 ^ u := by
          split
          · simp
          · exact subO_len n hn u _
        omega
    have h := this (List.range n)
    rw [List.length_range] at h
    refine Nat.le_trans h ?_
    rw [Nat.pow_succ,Nat.mul_comm]
    exact Nat.mul_le_mul_left _ hn
theorem ords_len (n : Nat) (hn : n ≤ 6) : (ords n).length ≤ 46656 := by
  have h := subO_len n hn n []
  have e : subO n n [] = ords n := by simp [subO,mk]
  rw [e] at h
  have : 6 ^ n ≤ 6 ^ 6 := Nat.pow_le_pow_right (by omega) hn
  exact Nat.le_trans h this
end Go.Am.Ring
set_option linter.unusedVariables false
set_option linter.unusedSimpArgs false
set_option maxRecDepth 10000
namespace Go.Am.Ring
open Go.Am.G
end Go.Am.Ring
