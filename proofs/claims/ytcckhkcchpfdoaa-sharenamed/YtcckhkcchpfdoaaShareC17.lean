import Derived.Test.YtcckhkcchpfdoaaShareC16
set_option linter.unusedVariables false
set_option linter.unusedSimpArgs false
set_option maxRecDepth 10000
namespace Go.Am.Share
theorem enemy_loop (nl ex nl' ex' : Bool) (sz sz' : Nat) {rs : List Row} {o : List Int} (D : DOk rs o) (j : Nat) (n : Nat) : ∀ k,k + n = rs.length →
    exF LP share_division_enemy.L0 [(1,.int .i64 (j : Int)),(2,.ptr 0 0 2),(10,.int .i64 (rs.length : Int)),(11,.int .i64 (k : Int))] [⟨[VL nl ex sz rs,IL nl' ex' sz' o],true⟩] =
      if fstI (fun i => decide (0 < eW (vals rs) o i j)) n k = -1 then some (.exit 0,[],[⟨[VL nl ex sz rs,IL nl' ex' sz' o],true⟩]) else some (.ret,[(4,.int .i64 (fstI (fun i => decide (0 < eW (vals rs) o i j)) n k))],[⟨[VL nl ex sz rs,IL nl' ex' sz' o],true⟩]) := by
  have h4 := D.le4
  induction n with
  | zero =>
    intro k hk
    rw [share_division_enemy.L0_eq]
    simp only [share_division_enemy.B0,exF_seq,exF_region,exF_cond,exF_exit,runL,wantL,stepL,evL,LEnv.at,putL,loadFine,LEnv.keep,List.map_cons,List.map_nil,nbeq,bin_lss,Nat.reduceEqDiff,decide_true,decide_false,cond_true,cond_false,if_true,eq_self,show ¬ ((k : Int) < (rs.length : Int)) by omega,fstI]
  | succ n ih =>
    intro k hk
    have h2 : k < rs.length := by omega
    have he := fun m => envy_d nl ex nl' ex' sz sz' D h2 j m
    rw [share_division_enemy.L0_eq,fstI]
    by_cases h1 : 0 < eW (vals rs) o k j
    · have hn : ¬ ((k : Int) = -1) := by omega
      simp only [share_division_enemy.B0,exF_seq,exF_region,exF_block,exF_cond,exF_ret,exF_skip,runL,wantL,stepL,evL,evC,LEnv.at,putL,loadFine,loadL,cellsAt,Trk.calm,Trk.hit,LEnv.keep,List.map_cons,List.map_nil,nbeq,nble,ofAVs,bin_lss,bin_gtr,List.any_nil,Bool.or_false,Bool.or_true,Bool.and_true,Bool.false_and,Bool.not_true,Bool.not_false,Nat.reduceEqDiff,decide_true,decide_false,cond_true,cond_false,Nat.reduceAdd,Nat.reduceLeDiff,List.length_nil,List.length_cons,if_true,if_false,eq_self,List.append_nil,List.nil_append,List.getElem?_cons_zero,List.getElem?_cons_succ,List.take_succ_cons,List.drop_zero,List.take_nil,Nat.le_refl,show ((k : Int) < (rs.length : Int)) by omega,he,h1,hn]
    · simp only [share_division_enemy.B0,exF_seq,exF_region,exF_block,exF_cond,exF_skip,runL,wantL,stepL,evL,evC,LEnv.at,putL,loadFine,loadL,cellsAt,Trk.calm,Trk.hit,LEnv.keep,List.map_cons,List.map_nil,nbeq,nble,ofAVs,bin_add,bin_lss,bin_gtr,List.any_nil,Bool.or_false,Bool.or_true,Bool.and_true,Bool.false_and,Bool.not_true,Bool.not_false,Nat.reduceEqDiff,decide_true,decide_false,cond_true,cond_false,Nat.reduceAdd,Nat.reduceLeDiff,List.length_nil,List.length_cons,if_false,Bool.false_eq_true,eq_self,List.append_nil,List.nil_append,List.getElem?_cons_zero,List.getElem?_cons_succ,List.take_succ_cons,List.drop_zero,List.take_nil,Nat.le_refl,show ((k : Int) < (rs.length : Int)) by omega,he,h1,wrap_succ (show k + 1 < 9223372036854775808 by omega),ih (k + 1) (by omega)]
theorem enemy_c (nl ex nl' ex' : Bool) (sz sz' : Nat) {rs : List Row} {o : List Int} (D : DOk rs o) (j : Nat) (m : LMem) : clF LP n_share_division_enemy [.agg [VL nl ex sz rs,IL nl' ex' sz' o],.int .i64 (j : Int)] m = some (.P,.int .i64 (enI (vals rs) o j),m) := by
  have h := enemy_loop nl ex nl' ex' sz sz' D j rs.length 0 (by omega)
  unfold enI
  rw [vals_length]
  simp only [Int.natCast_zero] at h
  by_cases hc : fstI (fun i => decide (0 < eW (vals rs) o i j)) rs.length 0 = -1
  · refine call_P lp_share_division_enemy rfl (by simp [LV.pures,LV.pure]) (m1 := [⟨[VL nl ex sz rs,IL nl' ex' sz' o],true⟩]) ?_ rfl m
    rw [if_pos hc] at h
    simp only [share_division_enemy,share_division_enemy.B,exF_seq,exF_region,exF_block,exF_ret,runL,wantL,stepL,evL,evC,LEnv.at,putL,loadFine,loadL,cellsAt,Trk.putNew,Trk.up,Trk.touch,Trk.gives,Trk.calm,Trk.hit,opdsOf,Trk.fresh,LEnv.keep,LEnv.ofFrom,List.map_cons,List.map_nil,nbeq,nble,lenL,List.any_cons,List.any_nil,Bool.or_false,Bool.or_true,Bool.and_true,Bool.false_and,Bool.not_true,Bool.not_false,Nat.reduceEqDiff,decide_true,decide_false,cond_true,cond_false,List.filter_nil,Nat.reduceAdd,Nat.reduceLeDiff,reduceCtorEq,List.length_nil,List.length_cons,eq_self,retL,resultsL,resAllL,resOfL,List.nil_append,LV.cells,allocL,List.getElem?_cons_zero,List.take_zero,List.take_succ_cons,List.drop_zero,h,hc]
  · refine call_P lp_share_division_enemy rfl (by simp [LV.pures,LV.pure]) (m1 := [⟨[VL nl ex sz rs,IL nl' ex' sz' o],true⟩]) ?_ rfl m
    rw [if_neg hc] at h
    simp only [share_division_enemy,share_division_enemy.B,exF_seq,exF_region,exF_block,runL,wantL,stepL,evL,evC,LEnv.at,putL,loadFine,loadL,cellsAt,Trk.putNew,Trk.up,Trk.touch,Trk.gives,Trk.calm,Trk.hit,opdsOf,Trk.fresh,LEnv.keep,LEnv.ofFrom,List.map_cons,List.map_nil,nbeq,nble,lenL,List.any_cons,List.any_nil,Bool.or_false,Bool.or_true,Bool.and_true,Bool.false_and,Bool.not_true,Bool.not_false,Nat.reduceEqDiff,decide_true,decide_false,cond_true,cond_false,List.filter_nil,Nat.reduceAdd,Nat.reduceLeDiff,reduceCtorEq,List.length_nil,List.length_cons,eq_self,retL,resultsL,resAllL,resOfL,List.nil_append,LV.cells,allocL,List.getElem?_cons_zero,List.take_zero,List.take_succ_cons,List.drop_zero,h]
end Go.Am.Share
set_option linter.unusedVariables false
set_option linter.unusedSimpArgs false
set_option maxRecDepth 10000
namespace Go.Am
theorem views_two (k : Nat) (m : LMem) (a b a' : LV) (ids : List Nat) (h : ∀ k,view (k + 3) m a = some (a',ids)) (hb : b.pure = true) (hn : LV.pures [a,b] = false) : viewL (k + 8) m [a,b] = some ([a',b],ids) := by
  rw [viewL.eq_def]
  simp only [hn,cond_false]
  rw [viewC.eq_def]
  simp only [h]
  rw [viewC.eq_def]
  simp only [view_pure _ _ b hb]
  rw [viewC.eq_def]
  simp
theorem views_one (k : Nat) (m : LMem) (a a' : LV) (ids : List Nat) (h : ∀ k,view (k + 3) m a = some (a',ids)) (hn : LV.pures [a] = false) : viewL (k + 8) m [a] = some ([a'],ids) := by
  rw [viewL.eq_def]
  simp only [hn,cond_false]
  rw [viewC.eq_def]
  simp only [h]
  rw [viewC.eq_def]
  simp
theorem view_sl (k : Nat) (m : LMem) (i p n L g : Nat) (cs : List Int) (b : Bool) (h : m[i]? = some ⟨cs.map (LV.int .i64),b⟩) (hL : cs.length = L) (hp : p + n ≤ L) (c : Nat) (hc : n ≤ c) : view (k + 3) m (.sl i p n c g 1 L) = some (IL false (Nat.beq g 0 && Nat.beq c n) 1 ((cs.drop p).take n),[i]) := by
  have h2 : ((cs.map (LV.int .i64)).drop p).take (n * 1) = ((cs.drop p).take n).map (LV.int .i64) := by simp [List.map_take,List.map_drop]
  simp only [view,h,h2,viewL_pures _ _ _ (pures_int .i64 _)]
  have : ((cs.drop p).take n).length = n := by simp; omega
  simp [nbeq,nble,hL,hp,hc,this]
theorem view_gv (k : Nat) (m : LMem) (i : Nat) (l : List Int) (h : l ≠ [] → m[i]? = some ⟨l.map (LV.int .i64),true⟩) : view (k + 3) m (GV i l) = some (RL l,if l = [] then [] else [i]) := by
  by_cases hl : l = []
  · subst hl; rfl
  · have h1 := h hl
    simp only [GV,if_neg hl,view,h1]
    have h2 : ((l.map (LV.int .i64)).drop 0).take (l.length * 1) = l.map (LV.int .i64) := by rw [List.drop_zero,List.take_of_length_le (by simp)]
    simp only [h2,viewL_pures _ _ _ (pures_int .i64 l)]
    have hd : decide (l = []) = false := by simpa using hl
    have hpos : ¬ l.length = 0 := by simpa using hl
    simp [hd,nbeq,nble]
theorem view_d (k : Nat) (m : LMem) (V : LV) (hV : V.pure = true) (i L g : Nat) (o : List Int) (b : Bool) (h : m[i]? = some ⟨o.map (LV.int .i64),b⟩) (hL : o.length = L) : view (k + 13) m (.agg [V,.sl i 0 L L g 1 L]) = some (.agg [V,IL false (Nat.beq g 0) 1 o],[i]) := by
  have h1 := fun k => view_sl k m i 0 L L g o b h hL (by omega) L (by omega)
  have hn : LV.pures [V,.sl i 0 L L g 1 L] = false := by simp [LV.pures,LV.pure]
  rw [view.eq_def]
  simp only
  rw [viewL.eq_def]
  simp only [hn,cond_false]
  rw [viewC.eq_def]
  simp only [view_pure _ _ V hV]
  rw [viewC.eq_def]
  simp only [h1]
  rw [viewC.eq_def]
  subst hL
  simp [nbeq]
end Go.Am
namespace Go.Am.Share
end Go.Am.Share
set_option linter.unusedVariables false
set_option linter.unusedSimpArgs false
set_option maxRecDepth 10000
namespace Go.Am.Share
def allR (N : Nat) : Nat → List (List Int)
  | 0 => [[]]
  | n + 1 => (List.range' 0 N).flatMap fun j : Nat => (allR N n).map fun q => (j : Int) :: q
def runV {σ : Type} (vis : σ → List Int → σ × Bool) : σ → List (List Int) → σ × Bool
  | s,[] => (s,true)
  | s,x :: xs => if (vis s x).2 then runV vis (vis s x).1 xs else ((vis s x).1,false)
theorem runV_append {σ : Type} (vis : σ → List Int → σ × Bool) : ∀ (A B : List (List Int)) (s : σ),runV vis s (A ++ B) = if (runV vis s A).2 then runV vis (runV vis s A).1 B else runV vis s A
  | [],B,s => by simp [runV]
  | x :: xs,B,s => by
    rw [List.cons_append,runV,runV]
    by_cases h : (vis s x).2 = true
    · rw [if_pos h,if_pos h,runV_append vis xs B]
    · rw [if_neg h,if_neg h]; simp
structure Vis (σ : Type) (V : LV) (N L : Nat) where
  mem : σ → List Int → LMem
  vis : σ → List Int → σ × Bool
  good : σ → Prop
  f : Nat
  first : List LV
  cap : List LV
  d : Nat
  b : Nat
  iv : Nat
  ip : Nat
  hd : ∀ s o,o.length = L → (mem s o)[d]? = some ⟨[V,SLo b L],true⟩
  own : σ → Bool
  hown : ∀ s,0 < L → own s = true
  hb : ∀ s o,o.length = L → (mem s o)[b]? = some ⟨o.map (LV.int .i64),own s⟩
  hv : ∀ s o,o.length = L → (mem s o)[iv]? = some ⟨[.func f first cap],true⟩
  hp : ∀ s o,o.length = L → (mem s o)[ip]? = some ⟨[.func n_share_each_1 [] [.ptr d 0 2,.ptr iv 0 1,.ptr ip 0 1]],true⟩
  hset : ∀ s o k x,o.length = L → k < L → (mem s o).set b ⟨(o.set k x).map (LV.int .i64),true⟩ = mem s (o.set k x)
  htrim : ∀ s l o o' c,good s → o.length = L → o'.length = L → trim (mem s o).length [.bool c] (mem (runV vis s l).1 o') = mem (runV vis s l).1 o'
  hvis : ∀ s o,good s → o.length = L → clF LP f (first ++ ([.agg [V,SLo b L]] ++ cap)) (mem s o) = some (.W,.bool (vis s o).2,mem (vis s o).1 o)
  hgood : ∀ s o,good s → o.length = L → (vis s o).2 = true → good (vis s o).1
theorem runV_good {σ : Type} {V : LV} {N L : Nat} (X : Vis σ V N L) : ∀ (l : List (List Int)) (s : σ),(∀ x ∈ l,x.length = L) → X.good s → (runV X.vis s l).2 = true → X.good (runV X.vis s l).1
  | [],s,_,h,_ => h
  | x :: xs,s,hl,h,h2 => by
    rw [runV] at h2 ⊢
    by_cases c : (X.vis s x).2 = true
    · rw [if_pos c] at h2 ⊢
      exact runV_good X xs _ (fun y hy => hl y (by simp [hy])) (X.hgood s x h (hl x (by simp)) c) h2
    · rw [if_neg c] at h2; cases h2
theorem allR_length (N : Nat) : ∀ (n : Nat),∀ x ∈ allR N n,x.length = n
  | 0,x,h => by simp [allR] at h; subst h; rfl
  | n + 1,x,h => by
    simp only [allR,List.mem_flatMap,List.mem_map] at h
    obtain ⟨j,_,q,hq,rfl⟩ := h
    simp [allR_length N n q hq]
theorem each_loop {σ : Type} (nl ex : Bool) (sz : Nat) {rs : List Row} {L : Nat} (hN : rs.length ≤ 4) (hL : L ≤ 6) (X : Vis σ (VL nl ex sz rs) rs.length L) (n k : Nat) (hk : k + (n + 1) = L)
    (hput : ∀ s o,o.length = L → X.good s → ∃ o',o'.length = L ∧ o'.take (k + 1) = o.take (k + 1) ∧
      clF LP n_share_each_1 [.int .i64 ((k + 1 : Nat) : Int),.ptr X.d 0 2,.ptr X.iv 0 1,.ptr X.ip 0 1] (X.mem s o) =
        some (.W,.bool (runV X.vis s ((allR rs.length n).map fun q => o.take (k + 1) ++ q)).2,X.mem (runV X.vis s ((allR rs.length n).map fun q => o.take (k + 1) ++ q)).1 o')) (j : Nat) : ∀ (w : Nat) (s : σ) (o : List Int),w + j = rs.length → o.length = L → X.good s →
    ∃ o',o'.length = L ∧ o'.take k = o.take k ∧
      exF LP share_each_1.L0 [(0,.int .i64 (k : Int)),(1,.ptr X.d 0 2),(3,.ptr X.ip 0 1),(17,.int .i64 (rs.length : Int)),(18,.int .i64 (w : Int))] (X.mem s o) =
        if (runV X.vis s ((List.range' w j).flatMap fun x : Nat => (allR rs.length n).map fun q => o.take k ++ (x : Int) :: q)).2 then some (.exit 0,[],X.mem (runV X.vis s ((List.range' w j).flatMap fun x : Nat => (allR rs.length n).map fun q => o.take k ++ (x : Int) :: q)).1 o')
        else some (.ret,[(5,.bool false)],X.mem (runV X.vis s ((List.range' w j).flatMap fun x : Nat => (allR rs.length n).map fun q => o.take k ++ (x : Int) :: q)).1 o') := by
  induction j with
  | zero =>
    intro w s o hw ho hg
    refine ⟨o,ho,rfl,?_⟩
    rw [share_each_1.L0_eq]
    simp only [share_each_1.B0,exF_seq,exF_region,exF_cond,exF_exit,runL,wantL,stepL,evL,LEnv.at,putL,loadFine,LEnv.keep,List.map_cons,List.map_nil,nbeq,bin_lss,Nat.reduceEqDiff,decide_true,decide_false,cond_true,cond_false,reduceCtorEq,if_true,eq_self,show ¬ ((w : Int) < (rs.length : Int)) by omega,List.range'_zero,List.flatMap_nil,runV]
  | succ j ih =>
    intro w s o hw ho hg
    have hkL : k < L := by omega
    have hko : k < o.length := by omega
    have ho1 : (o.set k (w : Int)).length = L := by simpa using ho
    obtain ⟨o2,p1,p2,p3⟩ := hput s (o.set k (w : Int)) ho1 hg
    have ht : (o.set k (w : Int)).take (k + 1) = o.take k ++ [(w : Int)] := by
      rw [List.set_eq_take_append_cons_drop,if_pos hko,List.take_append,List.length_take,show k + 1 - min k o.length = 1 by omega,List.take_take,show min (k + 1) k = k by omega]
      simp
    have hmap : ((allR rs.length n).map fun q => (o.set k (w : Int)).take (k + 1) ++ q) = (allR rs.length n).map fun q => o.take k ++ (w : Int) :: q := by
      rw [ht]; simp
    rw [hmap] at p3
    have hgood := runV_good X ((allR rs.length n).map fun q => o.take k ++ (w : Int) :: q) s (by
      intro x hx
      simp only [List.mem_map] at hx
      obtain ⟨q,hq,rfl⟩ := hx
      have := allR_length rs.length n q hq
      simp; omega) hg
    rw [List.range'_succ,List.flatMap_cons,runV_append]
    have hd := X.hd s o ho
    have hb := X.hb s o ho
    rw [X.hown s (by omega)] at hb
    have hp := X.hp s (o.set k (w : Int)) ho1
    have hset := X.hset s o k (w : Int) ho hkL
    have ho2 : o2.take k = o.take k := by
      have := congrArg (List.take k) p2
      rw [List.take_take,List.take_take,show min k (k + 1) = k by omega] at this
      rw [this]
      rw [List.take_set,List.set_eq_of_length_le (by simp; omega)]
    have hws := wrap_succ (show k + 1 < 9223372036854775808 by omega)
    have hww := wrap_succ (show w + 1 < 9223372036854775808 by omega)
    generalize runV X.vis s ((allR rs.length n).map fun q => o.take k ++ (w : Int) :: q) = r at *
    obtain ⟨s2,c⟩ := r
    cases c
    · refine ⟨o2,p1,ho2,?_⟩
      rw [share_each_1.L0_eq]
      simp only [share_each_1.B0,exF_seq,exF_region,exF_block,exF_cond,exF_ret,exF_skip,runL,wantL,stepL,evL,evC,LEnv.at,putL,loadFine,loadL,cellsAt,Trk.putNew,Trk.up,Trk.touch,Trk.gives,Trk.calm,Trk.hit,opdsOf,Trk.fresh,LEnv.keep,List.map_cons,List.map_nil,nbeq,nble,nblt,bin_add,bin_lss,natL_nat,List.any_cons,List.any_nil,Bool.or_false,Bool.false_or,Bool.true_or,Bool.and_true,Bool.not_false,Nat.reduceEqDiff,decide_true,decide_false,cond_true,cond_false,List.filter_nil,Nat.reduceAdd,Nat.reduceLeDiff,reduceCtorEq,List.length_nil,List.length_cons,Nat.mul_one,if_false,Bool.false_eq_true,eq_self,List.nil_append,List.cons_append,unL,LV.cells,List.getElem?_cons_zero,List.getElem?_cons_succ,storeL,spliceL,List.take_succ_cons,List.drop_zero,List.drop_succ_cons,List.take_nil,Nat.le_refl,LV.scalar,List.all_cons,List.all_nil,show ((w : Int) < (rs.length : Int)) by omega,hd,hb,hkL,Nat.zero_add,List.length_map,ho,set_int _ _ _ _ hko,show k + 1 ≤ L by omega,hset,hp,hws,p3]
    · obtain ⟨o',q1,q2,q3⟩ := ih (w + 1) s2 o2 (by omega) p1 (hgood rfl)
      refine ⟨o',q1,by rw [q2,ho2],?_⟩
      rw [ho2] at q3
      rw [share_each_1.L0_eq]
      simp only [share_each_1.B0,exF_seq,exF_region,exF_block,exF_cond,exF_skip,runL,wantL,stepL,evL,evC,LEnv.at,putL,loadFine,loadL,cellsAt,Trk.putNew,Trk.up,Trk.touch,Trk.gives,Trk.calm,Trk.hit,opdsOf,Trk.fresh,LEnv.keep,List.map_cons,List.map_nil,nbeq,nble,nblt,bin_add,bin_lss,natL_nat,List.any_cons,List.any_nil,Bool.or_false,Bool.false_or,Bool.true_or,Bool.and_true,Bool.not_true,Nat.reduceEqDiff,decide_true,decide_false,cond_true,cond_false,List.filter_nil,Nat.reduceAdd,Nat.reduceLeDiff,reduceCtorEq,List.length_nil,List.length_cons,Nat.mul_one,if_true,eq_self,List.nil_append,List.cons_append,unL,LV.cells,List.getElem?_cons_zero,List.getElem?_cons_succ,storeL,spliceL,List.take_succ_cons,List.drop_zero,List.drop_succ_cons,List.take_nil,Nat.le_refl,LV.scalar,List.all_cons,List.all_nil,show ((w : Int) < (rs.length : Int)) by omega,hd,hb,hkL,Nat.zero_add,List.length_map,ho,set_int _ _ _ _ hko,show k + 1 ≤ L by omega,hset,hp,hws,p3,hww,q3]
theorem put_c {σ : Type} (nl ex : Bool) (sz : Nat) {rs : List Row} {L : Nat} (hN : rs.length ≤ 4) (hL : L ≤ 6) (X : Vis σ (VL nl ex sz rs) rs.length L) (n : Nat) : ∀ (k : Nat) (s : σ) (o : List Int),k + n = L → o.length = L → X.good s →
    ∃ o',o'.length = L ∧ o'.take k = o.take k ∧
      clF LP n_share_each_1 [.int .i64 (k : Int),.ptr X.d 0 2,.ptr X.iv 0 1,.ptr X.ip 0 1] (X.mem s o) =
        some (.W,.bool (runV X.vis s ((allR rs.length n).map fun q => o.take k ++ q)).2,X.mem (runV X.vis s ((allR rs.length n).map fun q => o.take k ++ q)).1 o') := by
  induction n with
  | zero =>
    intro k s o hk ho hg
    have hd := X.hd s o ho
    have hv := X.hv s o ho
    have hvis := X.hvis s o hg ho
    have hkL : k = L := by omega
    have e1 : runV X.vis s ((allR rs.length 0).map fun q => o.take k ++ q) = X.vis s o := by
      simp only [allR,List.map_cons,List.map_nil,List.append_nil,runV]
      rw [List.take_of_length_le (by omega)]
      cases h : X.vis s o with
      | mk a b => cases b <;> simp [h]
    have htr := X.htrim s ((allR rs.length 0).map fun q => o.take k ++ q) o o (X.vis s o).2 hg ho ho
    rw [e1] at htr ⊢
    refine ⟨o,ho,rfl,?_⟩
    have hLL : ((k : Int) = (L : Int)) := by omega
    rw [clF_eq,lp_share_each_1]
    simp only [callMode,share_each_1]
    simp only [List.cons_append,List.nil_append] at hvis
    simp only [share_each_1.B,exF_seq,exF_region,exF_cond,exF_ret,runL,wantL,stepL,evL,evC,LEnv.at,putL,loadFine,loadL,cellsAt,Trk.putNew,Trk.up,Trk.touch,Trk.gives,Trk.calm,Trk.hit,opdsOf,Trk.fresh,LEnv.keep,LEnv.ofFrom,List.map_cons,List.map_nil,nbeq,nble,lenL,bin_eql,List.any_cons,List.any_nil,Bool.or_false,Bool.false_or,Bool.true_or,Bool.and_true,Nat.reduceEqDiff,decide_true,decide_false,cond_true,cond_false,List.filter_nil,Nat.reduceAdd,Nat.reduceLeDiff,reduceCtorEq,List.length_nil,List.length_cons,eq_self,retL,resultsL,resAllL,resOfL,List.nil_append,List.cons_append,List.getElem?_cons_zero,List.getElem?_cons_succ,List.take_succ_cons,List.drop_zero,List.drop_succ_cons,List.take_nil,Nat.le_refl,hd,hv,hLL,hvis,htr]
  | succ n ih =>
    intro k s o hk ho hg
    have hd := X.hd s o ho
    obtain ⟨o',q1,q2,q3⟩ := each_loop nl ex sz hN hL X n k hk (fun s o ho hg => ih (k + 1) s o (by omega) ho hg) rs.length 0 s o (by omega) ho hg
    have e1 : ((allR rs.length (n + 1)).map fun q => o.take k ++ q) = (List.range' 0 rs.length).flatMap fun x : Nat => (allR rs.length n).map fun q => o.take k ++ (x : Int) :: q := by
      rw [allR,List.map_flatMap]; simp; rfl
    have htr := X.htrim s ((allR rs.length (n + 1)).map fun q => o.take k ++ q) o o'
    rw [e1] at htr ⊢
    refine ⟨o',q1,q2,?_⟩
    have hLL : ¬ ((k : Int) = (L : Int)) := by omega
    simp only [Int.natCast_zero] at q3
    generalize runV X.vis s ((List.range' 0 rs.length).flatMap fun x : Nat => (allR rs.length n).map fun q => o.take k ++ (x : Int) :: q) = r at *
    obtain ⟨s2,c⟩ := r
    have htr := htr c hg ho q1
    rw [clF_eq,lp_share_each_1]
    simp only [callMode,share_each_1]
    cases c
    · simp only [share_each_1.B,exF_seq,exF_region,exF_block,exF_cond,exF_skip,runL,wantL,stepL,evL,evC,LEnv.at,putL,loadFine,loadL,cellsAt,Trk.putNew,Trk.up,Trk.touch,Trk.gives,Trk.calm,Trk.hit,opdsOf,Trk.fresh,LEnv.keep,LEnv.ofFrom,List.map_cons,List.map_nil,nbeq,nble,lenL,bin_eql,List.any_cons,List.any_nil,Bool.or_false,Bool.false_or,Bool.true_or,Bool.and_true,Nat.reduceEqDiff,decide_true,decide_false,cond_true,cond_false,List.filter_nil,Nat.reduceAdd,Nat.reduceLeDiff,reduceCtorEq,List.length_nil,List.length_cons,if_false,Bool.false_eq_true,eq_self,retL,resultsL,resAllL,resOfL,List.getElem?_cons_zero,List.getElem?_cons_succ,List.take_zero,List.take_succ_cons,List.drop_zero,List.drop_succ_cons,List.take_nil,Nat.le_refl,hd,hLL,q3,htr]
    · simp only [share_each_1.B,exF_seq,exF_region,exF_block,exF_cond,exF_ret,exF_skip,runL,wantL,stepL,evL,evC,LEnv.at,putL,loadFine,loadL,cellsAt,Trk.putNew,Trk.up,Trk.touch,Trk.gives,Trk.calm,Trk.hit,opdsOf,Trk.fresh,LEnv.keep,LEnv.ofFrom,List.map_cons,List.map_nil,nbeq,nble,lenL,bin_eql,List.any_cons,List.any_nil,Bool.or_false,Bool.false_or,Bool.true_or,Bool.and_true,Nat.reduceEqDiff,decide_true,decide_false,cond_true,cond_false,List.filter_nil,Nat.reduceAdd,Nat.reduceLeDiff,reduceCtorEq,List.length_nil,List.length_cons,if_true,eq_self,retL,resultsL,resAllL,resOfL,List.getElem?_cons_zero,List.getElem?_cons_succ,List.take_zero,List.take_succ_cons,List.drop_zero,List.drop_succ_cons,List.take_nil,Nat.le_refl,hd,hLL,q3,htr]
end Go.Am.Share
