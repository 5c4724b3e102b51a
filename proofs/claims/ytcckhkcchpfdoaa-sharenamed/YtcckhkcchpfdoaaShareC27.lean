import Derived.Test.YtcckhkcchpfdoaaShareC26
set_option linter.unusedVariables false
set_option linter.unusedSimpArgs false
set_option maxRecDepth 10000
namespace Go.Am.Share
end Go.Am.Share
set_option linter.unusedVariables false
set_option linter.unusedSimpArgs false
set_option maxRecDepth 10000
namespace Go.Am.Share
theorem allS_map (N : Nat) (x : Int) (P : List (List Int)) : allS N (P.map fun q => x :: q) = (allS N P).map fun q => x :: q := by
  unfold allS
  rw [List.flatMap_map,List.map_flatMap]
  simp only [List.map_map]
  rfl
theorem allS_flat (N : Nat) (f : Nat → List (List Int)) : ∀ (l : List Nat),allS N (l.flatMap f) = l.flatMap fun j => allS N (f j)
  | [] => rfl
  | a :: r => by
    have := allS_flat N f r
    unfold allS at this ⊢
    rw [List.flatMap_cons,List.flatMap_cons,List.flatMap_append,this]
theorem allR_S (N : Nat) : ∀ (n : Nat),allR N (n + 1) = allS N (allR N n)
  | 0 => by
    simp only [allR,allS,List.flatMap_cons,List.flatMap_nil,List.append_nil,List.map_cons,List.map_nil,List.nil_append]
    induction List.range' 0 N with
    | nil => rfl
    | cons a r ih => rw [List.flatMap_cons,ih]; rfl
  | n + 1 => by
    rw [allR,allR_S N n]
    simp only [← allS_map]
    rw [← allS_flat]
    congr 1
    rw [← allR_S N n,allR]
theorem allR_D (N : Nat) : ∀ (n : Nat),allR N n = allD N n
  | 0 => rfl
  | n + 1 => by rw [allR_S,allD,allR_D N n]
theorem count_run (V : List (List Int)) : ∀ (l : List (List Int)) (s : Int),0 ≤ s → s + l.length < 1000000 → (runV (visC V) s l).1 = s + (l.filter (fairI V)).length
  | [],s,_,_ => by simp [runV]
  | x :: xs,s,h,h2 => by
    simp only [List.length_cons] at h2
    rw [runV,if_pos (show (visC V s x).2 = true from rfl)]
    cases c : fairI V x
    · rw [List.filter_cons_of_neg (by simp [c])]
      have : (visC V s x).1 = s := by simp [visC,c]
      rw [this,count_run V xs s h (by omega)]
    · rw [List.filter_cons_of_pos c]
      have : (visC V s x).1 = s + 1 := by simp only [visC,c,if_true]; exact wrap_in (by omega)
      rw [this,count_run V xs (s + 1) (by omega) (by omega)]
      simp only [List.length_cons]; omega
def fairs (V : List (List Int)) : List (List Int) := (allD V.length (V.getD 0 []).length).filter (fairI V)
theorem countV_eq (V : List (List Int)) : countV V = if chkV V = 0 then ((fairs V).length : Int) else 0 := by
  unfold countV
  by_cases h : chkV V = 0
  · rw [if_pos h,if_pos h]
    obtain ⟨k1,k2,k3,k4⟩ := chkV_ok h
    have hb := pow_bound k2 k3
    have hl := allD_length V.length (V.getD 0 []).length
    rw [count_run V _ 0 (by omega) (by rw [allR_D]; omega),allR_D,Int.zero_add]
    rfl
  · rw [if_neg h,if_neg h]
def freeE (V : List (List Int)) : Int := if chkV V ≠ 0 then chkV V else if fairs V = [] then 12 else 0
def freeV (V : List (List Int)) : List Int := if chkV V = 0 then (fairs V).headD [] else []
end Go.Am.Share
set_option linter.unusedVariables false
set_option linter.unusedSimpArgs false
set_option maxRecDepth 10000
namespace Go.Am.Share
def CV (i L : Nat) : LV := if L = 0 then .lst false true 0 0 [] else .sl i 0 L L 1 1 L
theorem clone_run (ex : Bool) (sz : Nat) (l : List Int) (hl : l.length < 1000000) (hsz : l = [] ∨ sz = 1) : retL slices_Clone_int_int.results (exF LP slices_Clone_int_int.B (LEnv.ofFrom 0 [IL false ex sz l]) []) = some (CV 0 l.length,if l = [] then [] else [⟨l.map (LV.int .i64),true⟩]) := by
  by_cases h : l = []
  · subst h
    simp only [slices_Clone_int_int,slices_Clone_int_int.B,exF_seq,exF_region,exF_cond,exF_ret,exF_skip,runL,wantL,stepL,evL,evC,LEnv.at,putL,loadFine,LEnv.keep,LEnv.ofFrom,List.map_cons,List.map_nil,nbeq,nble,ofAVs,Nat.zero_mul,Bool.or_false,Bool.true_or,Bool.or_true,Bool.and_true,Nat.reduceEqDiff,decide_true,decide_false,cond_true,cond_false,Nat.reduceAdd,reduceCtorEq,List.length_nil,if_true,eq_self,retL,resultsL,resAllL,resOfL,List.append_nil,freeze,Nat.reduceDiv,List.take_nil,List.all_nil,fillL,nilOf,eqsL,Bool.xor_false,appendL,contents,views,viewL]
    rfl
  · obtain rfl : sz = 1 := by rcases hsz with c | c; exact absurd c h; exact c
    have h0 : ¬ l.length = 0 := by simpa using h
    have hr1 : l.length * 8 ≤ roomMost := by unfold roomMost; omega
    have hr2 : l.length ≤ roomMost := by unfold roomMost; omega
    simp only [slices_Clone_int_int,slices_Clone_int_int.B,exF_seq,exF_region,exF_cond,exF_ret,exF_skip,runL,wantL,stepL,evL,evC,LEnv.at,putL,loadFine,LEnv.keep,LEnv.ofFrom,List.map_cons,List.map_nil,nbeq,nble,ofAVs,Nat.zero_mul,Bool.or_false,Bool.or_true,Bool.and_true,Nat.reduceEqDiff,decide_true,decide_false,cond_true,cond_false,reduceCtorEq,List.length_nil,Nat.mul_one,if_false,eq_self,retL,resultsL,resAllL,resOfL,List.nil_append,freeze,Nat.reduceDiv,List.take_nil,fillL,scalars_int,nilOf,eqsL,Bool.xor_false,appendL,contents,views,viewL,h0,hr1,hr2,newSl,Nat.zero_add,h,CV]
theorem clone_m {m : LMem} {i L g : Nat} {o : List Int} {b : Bool} (hb : m[i]? = some ⟨o.map (LV.int .i64),b⟩) (hL : o.length = L) (hl : o.length < 1000000) : clF LP n_slices_Clone_int_int [.sl i 0 L L g 1 L] m = some (.O,CV m.length L,if L = 0 then freeze [i] m else m ++ [⟨o.map (LV.int .i64),true⟩]) := by
  subst hL
  have h1 := fun k => view_sl k m i 0 o.length o.length g o b hb rfl (by omega) o.length (by omega)
  have hv : views m [.sl i 0 o.length o.length g 1 o.length] = some ([IL false (Nat.beq g 0 && Nat.beq o.length o.length) 1 o],[i]) := by
    have := views_one 92 m _ _ _ h1 (by simp [LV.pures,LV.pure])
    rw [List.drop_zero,List.take_length] at this
    exact this
  have hr := clone_run (Nat.beq g 0 && Nat.beq o.length o.length) 1 o hl (.inr rfl)
  have hm : slices_Clone_int_int.mode = .O := rfl
  have hb2 : slices_Clone_int_int.body = slices_Clone_int_int.B := rfl
  rw [clF_eq,lp_slices_Clone_int_int]
  simp only [callMode,hm,hv,hb2,hr]
  by_cases h : o = []
  · subst h
    simp [CV,newOnly,LV.solid,LV.shift]
  · have h0 : ¬ o.length = 0 := by simpa using h
    simp [CV,h,h0,newOnly,LV.solid,LV.shift,solids_int,shifts_int]
def visF (V : List (List Int)) (s : Option (List Int)) (o : List Int) : Option (List Int) × Bool := if fairI V o then (some o,false) else (s,true)
def HI (V : LV) (L b : Nat) (q : List Int) : LMem := if L = 0 then [] else [⟨[V,SLo b L],true⟩,⟨q.map (LV.int .i64),true⟩]
def fown (L : Nat) (s : Option (List Int)) : Bool := match s with | none => true | some _ => decide (L ≠ 0)
def FM (V : LV) (L : Nat) (s : Option (List Int)) (o : List Int) : LMem :=
  [⟨[.bool s.isSome],true⟩,⟨[match s with | none => LNIL | some _ => CV 8 L],true⟩,⟨[.func n_share_Free_1 [] [.ptr 0 0 1,.ptr 1 0 1]],true⟩,⟨[V,SLo 4 L],true⟩,⟨o.map (LV.int .i64),fown L s⟩,⟨[V,SLo 4 L],true⟩,⟨[PUT 2],true⟩] ++ (match s with | none => [] | some q => HI V L 4 q)
theorem free1_c (nl ex : Bool) (sz : Nat) {rs : List Row} {L : Nat} (D : VOk rs L) (o : List Int) (ho : o.length = L) :
    clF LP n_share_Free_1 [.agg [VL nl ex sz rs,SLo 4 L],.ptr 0 0 1,.ptr 1 0 1] (FM (VL nl ex sz rs) L none o) = some (.W,.bool (visF (vals rs) none o).2,FM (VL nl ex sz rs) L (visF (vals rs) none o).1 o) := by
  have h6 := D.le6
  have hf := fair_m nl ex sz (dok_len D ho) (m := FM (VL nl ex sz rs) L none o ++ [⟨[VL nl ex sz rs,SLo 4 L],true⟩]) (i := 4) (b := true) rfl ho
  have hcl := clone_m (g := 0) (m := FM (VL nl ex sz rs) L none o ++ [⟨[VL nl ex sz rs,SLo 4 L],true⟩]) (i := 4) (b := true) (o := o) rfl ho (by omega)
  rw [clF_eq,lp_share_Free_1]
  simp only [FM,fown,Option.isSome_none,List.cons_append,List.nil_append,List.append_nil,List.length_cons,List.length_nil,Nat.reduceAdd] at hf hcl
  simp only [callMode,share_Free_1,visF]
  cases hc : fairI (vals rs) o
  · rw [hc] at hf
    simp only [share_Free_1.B,exF_seq,exF_region,exF_cond,exF_ret,exF_skip,runL,wantL,stepL,evL,evC,LEnv.at,putL,loadFine,loadL,cellsAt,Trk.calm,Trk.hit,LEnv.keep,LEnv.ofFrom,List.map_cons,List.map_nil,nbeq,nble,ofAVs,List.any_nil,Bool.or_false,Bool.or_true,Bool.and_true,Bool.false_and,Bool.not_true,Bool.not_false,Nat.reduceEqDiff,decide_true,decide_false,cond_true,cond_false,Nat.reduceAdd,Nat.reduceLeDiff,reduceCtorEq,List.length_nil,List.length_cons,if_false,Bool.false_eq_true,eq_self,retL,resultsL,resAllL,resOfL,List.append_nil,List.nil_append,List.cons_append,unL,LV.cells,allocL,List.getElem?_cons_zero,List.getElem?_cons_succ,List.take_succ_cons,List.drop_zero,List.take_nil,Nat.le_refl,FM,fown,Option.isSome_none,hf]
    simp [trim,belowM,LV.unders,LV.under,unders_int,nblt]
  · rw [hc] at hf
    by_cases h : L = 0
    · subst h
      have hone : o = [] := List.length_eq_zero_iff.1 ho
      subst hone
      simp only [List.map_nil] at hf
      simp only [List.map_nil,CV,if_true,freeze,freeze1,List.getElem?_cons_succ,List.getElem?_cons_zero,List.set_cons_succ,List.set_cons_zero] at hcl
      simp only [share_Free_1.B,exF_seq,exF_region,exF_cond,exF_ret,runL,wantL,stepL,evL,evC,LEnv.at,putL,loadFine,loadL,cellsAt,Trk.putNew,Trk.up,Trk.touch,Trk.gives,Trk.calm,Trk.hit,opdsOf,Trk.fresh,LEnv.keep,LEnv.ofFrom,List.map_cons,List.map_nil,nbeq,nble,ofAVs,List.any_cons,List.any_nil,Bool.or_false,Bool.or_true,Bool.and_true,Bool.false_and,Bool.not_true,Bool.not_false,Nat.reduceEqDiff,decide_true,decide_false,cond_true,cond_false,List.filter_nil,Nat.reduceAdd,Nat.reduceLeDiff,reduceCtorEq,List.length_nil,List.length_cons,if_true,eq_self,retL,resultsL,resAllL,resOfL,List.append_nil,List.nil_append,not_true_eq_false,ne_eq,unL,allocL,List.getElem?_cons_zero,List.getElem?_cons_succ,storeL,spliceL,List.take_zero,List.take_succ_cons,List.drop_zero,List.drop_succ_cons,List.drop_nil,List.take_nil,Nat.le_refl,List.set_cons_zero,List.set_cons_succ,LV.scalar,List.all_cons,List.all_nil,LV.cells,List.cons_append,FM,fown,Option.isSome_none,Option.isSome_some,hf,hcl]
      simp [trim,belowM,LV.unders,LV.under,nblt,HI,CV]
    · simp only [CV,if_neg h] at hcl
      simp only [share_Free_1.B,exF_seq,exF_region,exF_cond,exF_ret,runL,wantL,stepL,evL,evC,LEnv.at,putL,loadFine,loadL,cellsAt,Trk.putNew,Trk.up,Trk.touch,Trk.gives,Trk.calm,Trk.hit,opdsOf,Trk.fresh,LEnv.keep,LEnv.ofFrom,List.map_cons,List.map_nil,nbeq,nble,ofAVs,List.any_cons,List.any_nil,Bool.or_false,Bool.or_true,Bool.and_true,Bool.false_and,Bool.not_true,Bool.not_false,Nat.reduceEqDiff,decide_true,decide_false,cond_true,cond_false,List.filter_nil,Nat.reduceAdd,Nat.reduceLeDiff,reduceCtorEq,List.length_nil,List.length_cons,if_true,eq_self,retL,resultsL,resAllL,resOfL,List.append_nil,List.nil_append,ne_eq,unL,allocL,List.getElem?_cons_zero,List.getElem?_cons_succ,storeL,spliceL,List.take_zero,List.take_succ_cons,List.drop_zero,List.drop_succ_cons,List.drop_nil,List.take_nil,Nat.le_refl,List.set_cons_zero,List.set_cons_succ,LV.scalar,List.all_cons,List.all_nil,LV.cells,List.cons_append,FM,fown,Option.isSome_none,Option.isSome_some,hf,hcl]
      simp [trim,belowM,LV.unders,LV.under,unders_int,nblt,HI,CV,h]
def XF (nl ex : Bool) (sz : Nat) {rs : List Row} {L : Nat} (D : VOk rs L) : Vis (Option (List Int)) (VL nl ex sz rs) rs.length L where
  mem := FM (VL nl ex sz rs) L
  vis := visF (vals rs)
  good := fun s => s = none
  f := n_share_Free_1
  first := []
  cap := [.ptr 0 0 1,.ptr 1 0 1]
  d := 5
  b := 4
  iv := 2
  ip := 6
  own := fown L
  hown := fun s h => by cases s <;> simp [fown]; omega
  hd := fun _ _ _ => rfl
  hb := fun _ _ _ => rfl
  hv := fun _ _ _ => rfl
  hp := fun _ _ _ => rfl
  hset := fun s _ _ _ _ h => by
    have : fown L s = true := by cases s <;> simp [fown]; omega
    simp [FM,this]
  htrim := fun s l o o' c hs h1 h2 => by
    subst hs
    generalize (runV (visF (vals rs)) none l).1 = r
    cases r with
    | none => exact trim_le _ _ _ (by simp [FM])
    | some q =>
      by_cases h : L = 0
      · exact trim_le _ _ _ (by simp [FM,HI,h])
      · simp [FM,HI,h,trim,belowM,LV.unders,LV.under,nblt,CV]
  hvis := fun s o hs ho => by subst hs; exact free1_c nl ex sz D o ho
  hgood := fun s o hs _ h => by
    subst hs
    by_cases c : fairI (vals rs) o = true
    · simp [visF,c] at h
    · simp [visF,c]
theorem free_run (V : List (List Int)) : ∀ (l : List (List Int)),(runV (visF V) none l).1 = (l.filter (fairI V)).head?
  | [] => rfl
  | x :: xs => by
    rw [runV]
    by_cases c : fairI V x = true
    · rw [List.filter_cons_of_pos c]; simp [visF,c]
    · rw [List.filter_cons_of_neg c]
      have := free_run V xs
      simpa [visF,c] using this
theorem each_free (nl ex : Bool) (sz : Nat) {rs : List Row} {L : Nat} (D : VOk rs L) :
    ∃ m',clF LP n_share_each [VL nl ex sz rs,.func n_share_Free_1 [] [.ptr 0 0 1,.ptr 1 0 1]] [⟨[.bool false],true⟩,⟨[LNIL],true⟩] = some (.W,.tup [],m') ∧
      (((allD rs.length L).filter (fairI (vals rs))).head? = none → m' = [⟨[.bool false],true⟩,⟨[LNIL],true⟩]) ∧
      (∀ q,((allD rs.length L).filter (fairI (vals rs))).head? = some q → m'[0]? = some ⟨[.bool true],true⟩ ∧ m'[1]? = some ⟨[CV 8 L],true⟩ ∧ (L ≠ 0 → m'[8]? = some ⟨q.map (LV.int .i64),true⟩)) := by
  have h0 : (nones L).length = L := by simp [nones]
  obtain ⟨o',q1,q2,q3⟩ := put_c nl ex sz D.le4 D.le6 (XF nl ex sz D) L 0 none (nones L) (by omega) h0 rfl
  have hm : ((allR rs.length L).map fun q => (nones L).take 0 ++ q) = allR rs.length L := by simp
  rw [hm,allR_D] at q3
  have hl := D.len 0 D.pos
  have he := fun m => empty_c nl ex sz rs D.pos (by rw [hl]; exact D.le6) m
  rw [hl] at he
  simp only [XF,Int.natCast_zero] at q3
  rw [free_run] at q3
  generalize ((allD rs.length L).filter (fairI (vals rs))).head? = r at *
  have q3' : ∀ x,clF LP n_share_each_1 [.int .i64 0,.ptr 5 0 2,.ptr 2 0 1,.ptr 6 0 1] [⟨[.bool false],true⟩,⟨[LNIL],true⟩,⟨[.func n_share_Free_1 [] [.ptr 0 0 1,.ptr 1 0 1]],true⟩,⟨[VL nl ex sz rs,SLo 4 L],true⟩,⟨(nones L).map (LV.int .i64),true⟩,⟨[VL nl ex sz rs,SLo 4 L],true⟩,⟨[PUT 2],true⟩] = x → clF LP n_share_each_1 [.int .i64 0,.ptr 5 0 2,.ptr 2 0 1,.ptr 6 0 1] (FM (VL nl ex sz rs) L none (nones L)) = x := fun x h => h
  have q4 := q3' _ rfl
  rw [q3] at q4
  refine ⟨trim 2 [.tup []] (FM (VL nl ex sz rs) L r o'),?_,?_,?_⟩
  · rw [clF_eq,lp_share_each]
    simp only [callMode,share_each]
    simp only [share_each.B,exF_seq,exF_region,runL,wantL,stepL,evL,evC,LEnv.at,putL,loadFine,loadL,cellsAt,Trk.calm,Trk.hit,LEnv.keep,LEnv.ofFrom,List.map_cons,List.map_nil,nbeq,nble,ofAV,ofAVs,List.any_nil,Bool.or_false,Bool.or_true,Bool.and_true,Bool.false_and,Bool.not_true,Bool.not_false,Nat.reduceEqDiff,decide_true,decide_false,cond_true,cond_false,Nat.reduceAdd,Nat.reduceLeDiff,reduceCtorEq,List.length_nil,List.length_cons,eq_self,retL,resultsL,resAllL,List.append_nil,List.nil_append,List.cons_append,LV.cells,allocL,List.getElem?_cons_zero,List.getElem?_cons_succ,storeL,spliceL,List.take_zero,List.take_succ_cons,List.drop_zero,List.drop_succ_cons,List.drop_nil,List.take_nil,Nat.le_refl,List.set_cons_zero,List.set_cons_succ,LV.scalar,List.all_cons,List.all_nil,he,← q4]
  · rintro rfl
    simp [FM,trim,belowM,LV.unders,LV.under,fown]
  · rintro q rfl
    by_cases h : L = 0
    · subst h
      simp [FM,trim,belowM,LV.unders,LV.under,CV]
    · simp [FM,trim,belowM,LV.unders,LV.under,CV,h,nblt,HI]
end Go.Am.Share
set_option linter.unusedVariables false
set_option linter.unusedSimpArgs false
set_option maxRecDepth 10000
namespace Go.Am.Share
theorem view_slq (m : LMem) (i L g : Nat) (o : List Int) (b : Bool) (e : Int) (h : m[i]? = some ⟨o.map (LV.int .i64),b⟩) (hL : o.length = L) : view 100 m (.tup [.sl i 0 L L g 1 L,.int .i64 e]) = some (.tup [IL false (Nat.beq g 0) 1 o,.int .i64 e],[i]) := by
  have h1 := fun k => view_sl k m i 0 L L g o b h hL (by omega) L (by omega)
  have := views_two 91 m _ (.int .i64 e) _ _ h1 rfl (by simp [LV.pures,LV.pure])
  rw [view.eq_def]
  simp only [this]
  subst hL
  simp [nbeq]
end Go.Am.Share
