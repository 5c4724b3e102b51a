import Derived.Test.YtheppipmnfjdcaaDoorRdE4
import Derived.Test.YtheppipmnfjdcaaDoorRdD1
import Derived.Carry
import Derived.LaidMore
import Derived.MakeChecks
set_option linter.unusedVariables false
set_option linter.unusedSimpArgs false
set_option maxRecDepth 10000
namespace Go.Am.Ring
open Go.Am.G
theorem mE_self {m : LMem} {ik : Nat} {E : List (Nat × LV)} (h : m[ik]? = some ⟨[.ents (entM E)],true⟩) : mE m ik E = m := by
  have hl := get_lt h
  apply List.ext_getElem?
  intro i
  by_cases c : ik = i
  · subst c
    rw [mE_ik hl,h]
  · rw [mE_get c]
theorem firm_most {R : List (List Nat)} {v : LV} {ik : Nat} {m m2 : LMem} (M : MA R v ik m) (M2 : MA R v ik m2) : firmLoad m2 false 1 (.ptr (ik + 2) 0 1) 2 [some m2,some m] = true := by
  simp only [firmLoad,loadL,M2.cf,M.cf,cellsAt,List.length_cons,List.length_nil,nbeq,Nat.zero_add,decide_true,cond_true,cond_false,List.getElem?_cons_zero,LV.firm,LV.firms,M.cm,M2.cm,M.c0,M2.c0,firmAll,LV.sameF,LV.sameFs,Bool.and_self]
theorem apart_loop (R : List (List Nat)) (hne : ∀ q ∈ R,q ≠ []) (hR : ∀ r ∈ R,(∀ i ∈ r,i < 12) ∧ r.length < 1000) (hRl : R.length < 100000000) (v : LV) (ik : Nat) (j : Nat) : ∀ (k U : Nat) (m : LMem) (E : List (Nat × LV)) (vo : LV) (out : List (List Nat)),k + j = R.length → U < 4096 → MA R v ik m → GoodE (mU R) E → m[ik]? = some ⟨[.ents (entM E)],true⟩ → out.length ≤ k → Lst m vo 1 out.length (rows out) → (∀ i,isBlk vo i → ik + 3 ≤ i) →
    ∃ vo' m',exF LP ring_Apart.L0 [(9,.ptr (ik + 2) 0 1),(10,vo),(11,.int .i64 (U : Int)),(26,v),(27,.int .i64 (R.length : Int)),(28,.int .i64 (k : Int))] m = some (.exit 0,[(10,vo')],m') ∧ Lst m' vo' 1 (out ++ gr R (R.drop k) U).length (rows (out ++ gr R (R.drop k) U)) := by
  induction j with
  | zero =>
    intro k U m E vo out hk hU M hE hm ho hL hb
    refine ⟨vo,m,?_,by rw [List.drop_eq_nil_of_le (show R.length ≤ k by omega),gr,List.append_nil]; exact hL⟩
    rw [ring_Apart.L0_eq]
    simp only [ring_Apart.B0,exF_seq,exF_region,exF_cond,exF_exit,runL,wantL,stepL,evL,LEnv.at,putL,loadFine,LEnv.keep,List.map_cons,List.map_nil,nbeq,bin_lss,Nat.reduceEqDiff,decide_true,decide_false,cond_true,cond_false,eq_self,show ¬ ((k : Int) < (R.length : Int)) by omega]
  | succ j ih =>
    intro k U m E vo out hk hU M hE hm ho hL hbo
    have h2 : k < R.length := by omega
    have hkk : (k : Int) < (R.length : Int) := by omega
    have hw := wrap_succ (show k + 1 < 9223372036854775808 by omega)
    have hmem : R[k] ∈ R := List.getElem_mem h2
    obtain ⟨hr12,hrl⟩ := hR _ hmem
    have ra := rowN_at R k h2
    have hset := fun M => set_c false false 1 R[k] hr12 hrl M
    have hcl := ci_len R[k]
    have hsb : setB R[k] < 4096 := setB_lt (n := 12) hr12
    have hand := sand (a := setB R[k]) (b := U) (by omega) (by omega)
    have hor := sor (a := U) (b := setB R[k]) (by omega) (by omega)
    have hrow : rlv (ci R[k]) = .lst false false 1 R[k].length (ints (ci R[k])) := by simp only [rlv,IL,hcl]
    rw [hrow] at ra
    obtain ⟨b,hb,rfl,hbr⟩ : ∃ b,b < ik ∧ v = .sl b 0 R.length R.length 1 1 R.length ∧ m[b]? = some ⟨rows R,true⟩ := by
      rcases M.rv with ⟨h,_⟩ | h
      · rw [h] at h2; simp at h2
      · exact h
    have hbl := get_lt hbr
    have hrwl : (rows R).length = R.length := by simp
    have hfl := get_lt M.cf
    have hcf := M.cf
    have hfn : ¬ m.length ≤ ik + 2 := by omega
    rw [List.drop_eq_getElem_cons h2,gr]
    by_cases c : setB R[k] &&& U = 0
    · have c' : ((setB R[k] &&& U : Nat) : Int) = 0 := by omega
      have hU2 : U ||| setB R[k] < 4096 := Nat.or_lt_two_pow (n := 12) hU hsb
      obtain ⟨E1,hc1,hE1⟩ := most_c R hne hR (by omega) _ ik m M _ _ (Nat.le_refl _) hU2 E hE
      obtain ⟨E2,hc2,hE2⟩ := most_c R hne hR (by omega) _ ik m M _ _ (Nat.le_refl _) hU E1 hE1
      rw [mE_self hm] at hc1
      have hmu := mU_le R (U ||| setB R[k])
      have hw1 : IntKind.i64.wrap (1 + ((mU R (U ||| setB R[k]) : Nat) : Int)) = ((1 + mU R (U ||| setB R[k]) : Nat) : Int) := by rw [wrap_in (by omega)]; omega
      have M1 : MA R (.sl b 0 R.length R.length 1 1 R.length) ik (mE m ik E1) := M.mono fun i _ hi => mE_get (fun e => hi e.symm)
      have M2 : MA R (.sl b 0 R.length R.length 1 1 R.length) ik (mE m ik E2) := M.mono fun i _ hi => mE_get (fun e => hi e.symm)
      have hfirm := firm_most M M1
      have hcf1 := M1.cf
      have hL2 : Lst (mE m ik E2) vo 1 out.length (rows out) := hL.mono fun i hi => mE_get (by have := hbo i hi; omega)
      have hm2 : (mE m ik E2)[ik]? = some ⟨[.ents (entM E2)],true⟩ := mE_ik (by omega)
      have hl2 : (mE m ik E2).length = m.length := mE_len
      by_cases c2 : 1 + mU R (U ||| setB R[k]) = mU R U
      · have c2' : ((1 + mU R (U ||| setB R[k]) : Nat) : Int) = ((mU R U : Nat) : Int) := by omega
        rw [if_pos ⟨c,c2⟩]
        obtain ⟨vo3,m3,hap,hL3,hk3,hlen3,hb3⟩ := hL2.append (x := .lst false true 1 1 [.lst false false 1 R[k].length (ints (ci R[k]))]) (k := 1) (news := [.lst false false 1 R[k].length (ints (ci R[k]))]) (bytes := 24) (by simp [contents,nbeq]) rfl (by omega) (by omega) rfl
        have hkeep : ∀ i,i < ik + 3 → m3[i]? = (mE m ik E2)[i]? := fun i hi => hk3 i (by omega) fun h => by have := hbo i h; omega
        have hL3 : Lst m3 vo3 1 (out ++ [R[k]]).length (rows (out ++ [R[k]])) := by
          have e : rows (out ++ [R[k]]) = rows out ++ [.lst false false 1 R[k].length (ints (ci R[k]))] := by rw [← hrow]; simp
          rw [e]; simpa using hL3
        obtain ⟨vo',m',hex,hL'⟩ := ih (k + 1) (U ||| setB R[k]) m3 E2 vo3 (out ++ [R[k]]) (by omega) hU2 (M2.mono fun i hi _ => hkeep i hi) hE2 (by rw [hkeep ik (by omega)]; exact hm2) (by simp; omega) hL3 (fun i hi => by
          rcases hb3 i hi with h | h
          · exact hbo i h
          · omega)
        refine ⟨vo',m',?_,by rw [List.append_assoc] at hL'; exact hL'⟩
        rw [ring_Apart.L0_eq]
        have hvw : ∀ (M : LMem),views M [.lst false false 1 R[k].length (ints (ci R[k]))] = some ([.lst false false 1 R[k].length (ints (ci R[k]))],[]) := fun M => views_pures _ _ (by simp [LV.pures,LV.pure])
        generalize mE m ik E1 = m1 at *
        generalize hm2' : mE m ik E2 = m2 at *
        generalize rows R = RR at *
        generalize ints (ci R[k]) = row at *
        generalize R[k].length = rl at *
        generalize setB R[k] = s at *
        generalize (1 + mU R (U ||| s) : Nat) = n1 at *
        simp only [ring_Apart.B0,beqT,exF_seq,exF_region,exF_block,exF_cond,exF_skip,runL,wantL,stepL,evL,evC,LEnv.at,putL,loadFine,loadL,cellsAt,Trk.putNew,Trk.up,Trk.touch,Trk.gives,Trk.calm,Trk.hit,opdsOf,Trk.fresh,LEnv.keep,List.map_cons,List.map_nil,nbeq,nble,nblt,ofAV,ofAVs,bin_add,bin_eql,bin_lss,natL_nat,List.any_cons,List.any_nil,Bool.or_false,Bool.or_true,Bool.and_true,Bool.false_and,Bool.not_true,Bool.not_false,Nat.reduceEqDiff,decide_true,decide_false,cond_true,cond_false,List.filter_nil,Nat.reduceAdd,Nat.reduceLeDiff,reduceCtorEq,List.length_nil,List.length_cons,Nat.mul_one,eq_self,List.append_nil,List.nil_append,Nat.reduceDiv,List.getElem?_cons_zero,spliceL,List.take_zero,List.take_succ_cons,List.drop_zero,List.drop_succ_cons,List.drop_nil,List.take_nil,Nat.le_refl,fillL,Nat.zero_add,hkk,h2,show ¬ m.length ≤ b by omega,hbr,hrwl,ra,hset,hand,c',hfn,hcf,hor,hc1,hfirm,hcf1,hc2,hw1,c2',hvw,freeze_nil,LV.cells,List.cons_append,hap,hw,hex]
      · have c2' : ¬ ((1 + mU R (U ||| setB R[k]) : Nat) : Int) = ((mU R U : Nat) : Int) := by omega
        rw [if_neg (fun h => c2 h.2)]
        obtain ⟨vo',m',hex,hL'⟩ := ih (k + 1) U (mE m ik E2) E2 vo out (by omega) hU M2 hE2 hm2 (by omega) hL2 hbo
        refine ⟨vo',m',?_,hL'⟩
        rw [ring_Apart.L0_eq]
        generalize mE m ik E1 = m1 at *
        generalize mE m ik E2 = m2 at *
        generalize rows R = RR at *
        generalize ints (ci R[k]) = row at *
        generalize R[k].length = rl at *
        generalize setB R[k] = s at *
        generalize (1 + mU R (U ||| s) : Nat) = n1 at *
        simp only [ring_Apart.B0,beqT,exF_seq,exF_region,exF_block,exF_cond,exF_skip,runL,wantL,stepL,evL,evC,LEnv.at,putL,loadFine,loadL,cellsAt,Trk.putNew,Trk.up,Trk.touch,Trk.gives,Trk.calm,Trk.hit,opdsOf,Trk.fresh,LEnv.keep,List.map_cons,List.map_nil,nbeq,nble,nblt,ofAVs,bin_add,bin_eql,bin_lss,natL_nat,List.any_cons,List.any_nil,Bool.or_false,Bool.or_true,Bool.and_true,Bool.false_and,Bool.not_true,Bool.not_false,Nat.reduceEqDiff,decide_true,decide_false,cond_true,cond_false,List.filter_nil,Nat.reduceAdd,Nat.reduceLeDiff,reduceCtorEq,List.length_nil,List.length_cons,Nat.mul_one,eq_self,List.append_nil,List.nil_append,List.cons_append,List.getElem?_cons_zero,List.take_succ_cons,List.drop_zero,List.take_nil,Nat.le_refl,Nat.zero_add,hkk,h2,show ¬ m.length ≤ b by omega,hbr,hrwl,ra,hset,hand,c',hfn,hcf,hor,hc1,hfirm,hcf1,hc2,hw1,c2',hw,hex]
    · have c' : ¬ ((setB R[k] &&& U : Nat) : Int) = 0 := by omega
      rw [if_neg (fun h => c h.1)]
      obtain ⟨vo',m',hex,hL'⟩ := ih (k + 1) U m E vo out (by omega) hU M hE hm (by omega) hL hbo
      refine ⟨vo',m',?_,hL'⟩
      rw [ring_Apart.L0_eq]
      generalize rows R = RR at *
      generalize ints (ci R[k]) = row at *
      generalize R[k].length = rl at *
      generalize setB R[k] = s at *
      simp only [ring_Apart.B0,beqT,exF_seq,exF_region,exF_block,exF_cond,exF_skip,runL,wantL,stepL,evL,evC,LEnv.at,putL,loadFine,loadL,cellsAt,Trk.putNew,Trk.up,Trk.touch,Trk.gives,Trk.calm,Trk.hit,opdsOf,Trk.fresh,LEnv.keep,List.map_cons,List.map_nil,nbeq,nble,nblt,ofAVs,bin_add,bin_eql,bin_lss,natL_nat,List.any_cons,List.any_nil,Bool.or_false,Bool.or_true,Bool.and_true,Bool.false_and,Bool.not_true,Bool.not_false,Nat.reduceEqDiff,decide_true,decide_false,cond_true,cond_false,List.filter_nil,Nat.reduceAdd,Nat.reduceLeDiff,Nat.mul_one,eq_self,List.append_nil,List.nil_append,Nat.zero_add,hkk,h2,show ¬ m.length ≤ b by omega,hbr,hrwl,ra,hset,hand,c',hw,hex]
theorem allR_ok {n : Nat} {P : List (Nat × Nat)} (G : Good n P) : (∀ q ∈ allR P,q ≠ []) ∧ ∀ r ∈ allR P,(∀ i ∈ r,i < 12) ∧ r.length < 1000 := by
  have h : ∀ r ∈ allR P,Beg n P r := fun r hr => by
    have := ((allR_mem G r).1 hr).1
    exact ⟨this.ne,this.lt,this.nd⟩
  exact ⟨fun q hq => (h q hq).ne,fun r hr => ⟨fun i hi => Nat.lt_of_lt_of_le ((h r hr).lt i hi) G.le12,by have := (h r hr).len G; omega⟩⟩
theorem apart_c {n : Nat} {P : List (Nat × Nat)} (G : Good n P) (nl ex : Bool) (sz : Nat) : ∃ a b z,∀ m,clF LP n_ring_Apart [.int .i64 (n : Int),FN nl ex sz P] m = some (.P,.tup [.lst a b z (ap (allR P)).length (rows (ap (allR P))),.int .i64 0],m) := by
  have hc := fun m => check_c nl ex sz (n : Int) (P.map castP) (by have := G.le12; simp; omega) m
  rw [chkF_of G] at hc
  have hcell : ∀ M : LMem,M = [⟨[.lst true true 0 0 []],true⟩] → Cl M := by
    rintro M rfl i hi b hb
    rw [List.mem_singleton.1 hb]; rfl
  obtain ⟨m1,O',hr,hI⟩ := rings_c (m := [⟨[.lst true true 0 0 []],true⟩]) apVis G nl ex sz [] [0] (.inl ⟨rfl,rfl,rfl⟩) (hcell _ rfl) rfl rfl
  have hr : clF LP n_ring_rings [FN nl ex sz P,.func n_ring_Apart_1 [] [.ptr 0 0 1]] [⟨[.lst true true 0 0 []],true⟩] = some (.W,.tup [],m1) := hr
  have hI : apI (allR P) O' m1 := by
    have := hI
    rw [ap_all,List.nil_append] at this
    exact this
  obtain ⟨hne,hok⟩ := allR_ok G
  have hlen := allR_len G
  obtain ⟨v,hv0,hrv⟩ : ∃ v,m1[0]? = some ⟨[v],true⟩ ∧ RowV m1 v m1.length (allR P) := by
    rcases hI with ⟨h0,h1,_⟩ | ⟨h0,b,hb,h1,h2,_⟩
    · exact ⟨_,h1,.inl ⟨h0,rfl⟩⟩
    · exact ⟨_,h1,.inr ⟨b,get_lt h2,rfl,h2⟩⟩
  have hpos := get_lt hv0
  generalize hR : allR P = R at *
  let m3 : LMem := m1 ++ [⟨[.ents []],true⟩] ++ [⟨[.map m1.length],true⟩] ++ [⟨[.func n_ring_Apart_2 [] [.ptr (m1.length + 1) 0 1,.ptr 0 0 1,.ptr (m1.length + 2) 0 1]],true⟩]
  have g : ∀ i,i < m1.length → m3[i]? = m1[i]? := fun i hi => by simp only [m3]; rw [List.getElem?_append_left (by simp; omega),List.getElem?_append_left (by simp; omega),List.getElem?_append_left hi]
  have M : MA R v m1.length m3 := by
    refine ⟨hpos,by rw [g 0 hpos]; exact hv0,?_,by simp [m3],by simp [m3]⟩
    rcases hrv with h | ⟨b,h1,h2,h3⟩
    · exact .inl h
    · exact .inr ⟨b,h1,h2,by rw [g b h1]; exact h3⟩
  have hik : m3[m1.length]? = some ⟨[.ents (entM [])],true⟩ := by simp [m3,entM]
  obtain ⟨vo',m',hex,hL⟩ := apart_loop R hne hok (by omega) v m1.length R.length 0 0 m3 [] (.lst true true 0 0 []) [] (by omega) (by omega) M (by intro e he; simp at he) hik (by simp) (Lst.nil _ 1) (by simp [isBlk])
  rw [List.drop_zero,List.nil_append,gr_all hne] at hL
  obtain ⟨a,b,z,ids,hz,_,_,hvw⟩ := hL.view (rows_pures _) (by omega)
  refine ⟨a,b,z,fun m => ?_⟩
  have hv2 : view 100 m' (.tup [vo',.int .i64 0]) = some (.tup [.lst a b z (ap R).length (rows (ap R)),.int .i64 0],ids) := by
    by_cases hp : LV.pures [vo',.int .i64 0] = true
    · have e1 := hvw 97
      have hvp : vo'.pure = true := by simpa [LV.pures,LV.pure] using hp
      rw [view_pure 98 m' vo' hvp] at e1
      simp only [Option.some.injEq,Prod.mk.injEq] at e1
      obtain ⟨e1,e2⟩ := e1
      rw [view_pure 98 m' _ (by simpa [LV.pure] using hp),← e2,e1]
    · exact view_tup2 m' vo' (.int .i64 0) _ ids hvw rfl (by simpa using hp)
  refine call_Pv lp_ring_Apart rfl (by simp [LV.pures,LV.pure]) (m1 := m') (v := .tup [vo',.int .i64 0]) (ids := ids) ?_ hv2 m
  have hlv : lenL v = some R.length := by
    rcases hrv with ⟨rfl,rfl⟩ | ⟨b,_,rfl,_⟩ <;> rfl
  have e1 : ∀ x : LBlk,(m1 ++ [x]).length = m1.length + 1 := fun x => by simp
  have e2 : ∀ x y : LBlk,(m1 ++ [x] ++ [y]).length = m1.length + 2 := fun x y => by simp
  have s1 : ((m1 ++ [⟨[.ents []],true⟩] ++ [⟨[LV.nilmap],true⟩] : LMem))[m1.length + 1]? = some ⟨[LV.nilmap],true⟩ := by simp
  have s2 : ((m1 ++ [⟨[.ents []],true⟩] ++ [⟨[LV.nilmap],true⟩] : LMem).set (m1.length + 1) ⟨[.map m1.length],true⟩) = m1 ++ [⟨[.ents []],true⟩] ++ [⟨[.map m1.length],true⟩] := by
    refine Eq.trans ?_ (set_last (m1 ++ [⟨[.ents []],true⟩]) ⟨[LV.nilmap],true⟩ ⟨[.map m1.length],true⟩)
    congr 1
    simp
  have s3 : ((m1 ++ [⟨[.ents []],true⟩] ++ [⟨[.map m1.length],true⟩] ++ [⟨[LV.nilFunc],true⟩] : LMem))[m1.length + 2]? = some ⟨[LV.nilFunc],true⟩ := by simp
  have s4 : ((m1 ++ [⟨[.ents []],true⟩] ++ [⟨[.map m1.length],true⟩] ++ [⟨[LV.nilFunc],true⟩] : LMem).set (m1.length + 2) ⟨[.func n_ring_Apart_2 [] [.ptr (m1.length + 1) 0 1,.ptr 0 0 1,.ptr (m1.length + 2) 0 1]],true⟩) = m3 := by
    refine Eq.trans ?_ (set_last (m1 ++ [⟨[.ents []],true⟩] ++ [⟨[.map m1.length],true⟩]) ⟨[LV.nilFunc],true⟩ ⟨[.func n_ring_Apart_2 [] [.ptr (m1.length + 1) 0 1,.ptr 0 0 1,.ptr (m1.length + 2) 0 1]],true⟩)
    congr 1
    simp
  have hc03 := M.c0
  simp only [Int.natCast_zero] at hex
  simp only [FN_eq] at hc hr ⊢
  simp only [ring_Apart,ring_Apart.B,exF_seq,exF_region,exF_block,exF_cond,exF_ret,exF_skip,runL,wantL,stepL,evL,evC,LEnv.at,putL,loadFine,loadL,cellsAt,Trk.calm,Trk.hit,LEnv.keep,LEnv.ofFrom,List.map_cons,List.map_nil,nbeq,nble,ofAV,ofAVs,bin_neq,List.any_nil,Bool.or_false,Bool.false_or,Bool.true_or,Bool.and_true,Nat.reduceEqDiff,decide_true,decide_false,cond_true,cond_false,Nat.reduceAdd,Nat.reduceLeDiff,reduceCtorEq,List.length_nil,List.length_cons,eq_self,retL,resultsL,resAllL,resOfL,List.append_nil,List.nil_append,not_true_eq_false,ne_eq,allocL,List.getElem?_cons_zero,storeL,spliceL,List.take_zero,List.take_succ_cons,List.drop_zero,List.drop_succ_cons,List.drop_nil,List.take_nil,Nat.le_refl,List.all_cons,List.all_nil,hc,hr,e1,e2,s1,s2,s3,s4,hc03,hlv,hex,LV.cells,LV.scalar]
end Go.Am.Ring
set_option linter.unusedVariables false
set_option linter.unusedSimpArgs false
set_option maxRecDepth 10000
set_option maxHeartbeats 1000000
namespace Go.Am.Ring
open Go.Am.G
theorem packed_law (f k : Nat) (hf : f < 256) (hk : k < 256) (bs : List Nat) (hb : bs.length = 24) (hbs : ∀ x ∈ bs,x < 256) :
    clF LP n_law04_RingPacked [.agg (bys (f :: k :: bs))] [] = some (.P,.bool true,[]) := by
  obtain ⟨a,b,z,hv,hmade⟩ := made_c f k hf hk bs hb hbs 4 8 (by omega) (by omega)
  have hn : 2 ≤ 2 + f % (4 - 1) ∧ 2 + f % (4 - 1) ≤ 6 := by omega
  have hkk : k % (8 + 1) ≤ 8 := by omega
  have G := made_good hn.1 hn.2 bs (i := k % (8 + 1)) (by omega)
  have hPl := madeP_len (2 + f % (4 - 1)) bs (k % (8 + 1))
  generalize madeP (2 + f % (4 - 1)) bs (k % (8 + 1)) = P at *
  generalize (2 + f % (4 - 1) : Nat) = n at *
  have h8 : P.length ≤ 8 := by omega
  clear hPl hkk
  have hlen : (bys (f :: k :: bs)).length = 26 := by simp [hb]
  have htk : (bys (f :: k :: bs)).take 26 = bys (f :: k :: bs) := List.take_of_length_le (by rw [hlen]; exact Nat.le_refl _)
  let W : LBlk := ⟨bys (f :: k :: bs),true⟩
  obtain ⟨a1,b1,z1,hap⟩ := apart_c G a b z
  obtain ⟨a2,b2,z2,hst⟩ := strike_v n P G a b z hv
  have hF := fun m => fewest_c n P G a b z m
  have hFe : (fwD anyM P n 0).1 = FW n P := rfl
  rw [hFe] at hF
  have hsub := ap_sub _ (allR P) (Nat.le_refl _)
  have hapF := ap_FW G
  have hsl := strL_len G
  have hlx : FW n P ≤ 13 := (fwD_le anyM P n G.le6 0).1
  have h0 := packed_loop G a b z a1 b1 z1 a2 b2 z2 [W] (ap (allR P)) (fun r hr => hsub.1.subset hr) (List.Pairwise.sublist hsub.1 (allR_asc P)) hsub.2 (by omega) (by omega) (ap (allR P)).length 0 (by omega)
  have e0 : setB ((ap (allR P)).take 0).flatten = 0 := rfl
  rw [e0] at h0
  have hS : IL a2 b2 z2 (ci (strL n P)) = .lst a2 b2 z2 (strL n P).length ((ci (strL n P)).map (LV.int .i64)) := by rw [IL,ci_len]
  rw [hS] at h0
  have hp8 : 2 ^ P.length ≤ 2 ^ 8 := Nat.pow_le_pow_right (by omega) h8
  have hpos : 0 < 2 ^ P.length := Nat.pow_pos (by omega)
  have hall := mI_all (allR P) P.length
  obtain ⟨M',h1,hM'⟩ := sets_loop G h8 a b z (.lst a1 b1 z1 (ap (allR P)).length (rows (ap (allR P)))) (2 ^ P.length) rfl 1 (2 ^ P.length) 0 [W,⟨Tab (mI (allR P) P.length) (2 ^ P.length) 0 0,true⟩] (by omega) rfl
  have hend := tab_end (mI (allR P) P.length) (N := 2 ^ P.length) (q := 2 ^ P.length - 1) (by omega)
  rw [hall] at hend
  have htl := tab_len (mI (allR P) P.length) (2 ^ P.length) (2 ^ P.length) 0
  have hz1 : zerosL [LV.int .i64 0] (2 ^ P.length) = Tab (mI (allR P) P.length) (2 ^ P.length) 0 0 := by
    rw [zeros_int,tab_zero]; simp
  have hz2 : zerosL (ofAVs [AV.int .i64 0]) (2 ^ P.length) = Tab (mI (allR P) P.length) (2 ^ P.length) 0 0 := hz1
  have hshl := sshl (i := P.length) (by omega)
  have lP : lenL (FN a b z P) = some P.length := by rw [FN_eq]; rfl
  have hcv : IntKind.u64.wrap ((2 ^ P.length : Nat) : Int) = ((2 ^ P.length : Nat) : Int) := IntWalk.u64_in _ (by omega)
  have hw1 : IntKind.i64.wrap (((2 ^ P.length : Nat) : Int) - 1) = ((2 ^ P.length - 1 : Nat) : Int) := by rw [wrap_in (by omega)]; omega
  have hbl1 : 2 ^ P.length * 8 ≤ roomMost := Nat.le_trans (show _ ≤ 2048 by omega) (by decide)
  have hbl2 : 2 ^ P.length ≤ roomMost := Nat.le_trans (show _ ≤ 2048 by omega) (by decide)
  have hq : 2 ^ P.length - 1 < 2 ^ P.length := by omega
  have g1 : ¬ (((FW n P : Nat) : Int) < (((ap (allR P)).length : Nat) : Int)) := by omega
  have e4 : ((4 : Nat) : Int) = 4 := rfl
  have e8 : ((8 : Nat) : Int) = 8 := rfl
  have lS : lenL (.sl 1 0 (2 ^ P.length) (2 ^ P.length) 0 1 (2 ^ P.length)) = some (2 ^ P.length) := rfl
  have lK : lenL (.lst a1 b1 z1 (ap (allR P)).length (rows (ap (allR P)))) = some (ap (allR P)).length := rfl
  rw [e4,e8] at hmade
  simp only [Int.natCast_zero] at h0 h1
  refine call_P lp_law04_RingPacked rfl (by simp only [LV.pures,LV.pure,pures_int,Bool.and_self]) (m1 := M') ?_ rfl []
  simp only [W] at h0 h1
  generalize Tab (mI (allR P) P.length) (2 ^ P.length) 0 0 = T0 at *
  generalize Tab (mI (allR P) P.length) (2 ^ P.length) (2 ^ P.length) 0 = T1 at *
  generalize (ci (strL n P)).map (LV.int .i64) = SV at *
  generalize (strL n P).length = sl at *
  generalize rows (ap (allR P)) = RK at *
  generalize (ap (allR P)).length = rl at *
  generalize (FW n P : Nat) = fw at *
  generalize (2 ^ P.length - 1 : Nat) = N1 at *
  generalize (2 ^ P.length : Nat) = N at *
  generalize FN a b z P = FP at *
  generalize bys (f :: k :: bs) = Wb at *
  simp only [law04_RingPacked,law04_RingPacked.B,law04_RingPacked.B.R0,law04_RingPacked.B.R1,law04_RingPacked.B.R2,law04_RingPacked.B.R3,law04_RingPacked.B.R4]
  repeat (rw [exF_seq]; try simp only [beqT,beqF,exF_seq,exF_region,exF_block,exF_cond,exF_ret,exF_skip,runL,wantL,stepL,evL,evC,LEnv.at,putL,loadFine,loadL,cellsAt,Trk.putNew,Trk.up,Trk.touch,Trk.gives,Trk.calm,Trk.hit,opdsOf,Trk.fresh,LEnv.keep,LEnv.ofFrom,List.map_cons,List.map_nil,nbeq,nble,nblt,ofAV,ofAVs,bin_sub,bin_eql,bin_neq,bin_gtr,natL_nat,List.any_cons,List.any_nil,Bool.or_false,Bool.false_or,Bool.true_or,Bool.or_true,Bool.and_true,Bool.false_and,Bool.not_true,Bool.not_false,Nat.reduceEqDiff,decide_true,decide_false,cond_true,cond_false,List.filter_nil,Nat.reduceAdd,Nat.reduceLeDiff,reduceCtorEq,List.length_nil,List.length_cons,Nat.mul_one,eq_self,retL,resultsL,resAllL,resOfL,List.append_nil,List.nil_append,List.cons_append,not_true_eq_false,ne_eq,LV.cells,allocL,List.getElem?_cons_zero,List.getElem?_cons_succ,List.drop_zero,Nat.le_refl,hlen,htk,hmade,hap,hst,hF,g1,h0,lP,lK,hshl,Nat.mul_one,hbl1,hbl2,hz1,lS,hcv,h1,hw1,hM',htl,hend,hq,Nat.zero_add,works_c])
theorem packed_in (ns : List Int) (hl : ns.length = 26) (h : ∀ x ∈ ns,0 ≤ x ∧ x < 256) : clF LP n_law04_RingPacked [.agg (ns.map (LV.int .u8))] [] = some (.P,.bool true,[]) := by
  obtain ⟨f,k,bs,e,hf,hk,hb,hbs⟩ := lay_of ns hl h
  rw [e]
  exact packed_law f k hf hk bs hb hbs
end Go.Am.Ring
set_option linter.unusedVariables false
namespace Go.Am
variable [Glo]
open Go.RowKit
omit [Glo] in
theorem trodAll_below {H : Type} {enc : TypeId × Value → H} {P : Program} {W W' : World} (hl : laidOutB P = true) (hb : Below W.heap.size W W') : ∀ {ts : List TypeId} {vs : List Value} {ds : List (DataW H)} {ps : List MemPlace},(ts.all fun t => P.readableRec t && decide (t < P.types.size)) = true →
    DataW.TrodAll enc P W 0 (fun _ => true) true ts vs ds ps → (∀ x ∈ ps,x.block < W.heap.size) → DataW.TrodAll enc P W' 0 (fun b => decide (b < W.heap.size)) true ts vs ds ps
  | [],[],[],_,_,h,_ => h
  | t :: ts,v :: vs,d :: ds,ps,hr,⟨p,q,h1,h2,e⟩,hlt => by
    simp only [List.all_cons,Bool.and_eq_true,decide_eq_true_eq] at hr
    subst e
    exact ⟨p,q,Below.trod hl hr.1.1 hr.1.2 h1 hb (fun x hx => hlt x (List.mem_append_left _ hx)),trodAll_below hl hb hr.2 h2 (fun x hx => hlt x (List.mem_append_right _ hx)),rfl⟩
end Go.Am
set_option linter.unusedVariables false
namespace Go.Am
variable [Glo]
open Go.RowKit
def sumPc : Nat → List (Nat × Nat) → Option Nat
  | off,[] => some off
  | off,(o,k) :: r => cond (Nat.beq o off) (sumPc (off + k) r) none
def pcsF (P : Program) (g : TypeId → Option Nat) : List Field → Option (List (Nat × Nat))
  | [] => some []
  | f :: r => match g f.type with
    | some k => match pcsF P g r with
      | some l => cond (Nat.beq (P.cellsOf f.type) k) (some ((f.offset,k) :: l)) none
      | none => none
    | none => none
def u8T (P : Program) : Nat → TypeId → Option Nat
  | 0,_ => none
  | n + 1,t => match P.underlying t with
    | some (.int .u8) => some 1
    | some (.array m e) => match u8T P n e with
      | some k => cond (Nat.beq (P.cellsOf e) k && Nat.beq (P.cellsOf t) (m * k)) (some (m * k)) none
      | none => none
    | some (.struct fs) => match pcsF P (u8T P n) fs.toList with
      | some l => match sumPc 0 l with
        | some k => cond (Nat.beq (P.cellsOf t) k) (some k) none
        | none => none
      | none => none
    | _ => none
def U8s (cs : List Value) : Prop := ∀ (i : Nat) (v : Value),cs[i]? = some v → ∃ n : Int,v = .int .u8 n ∧ (Lit.int .u8 n).wf = true
omit [Glo] in
theorem sumPc_in : ∀ (l : List (Nat × Nat)) (off tot : Nat),sumPc off l = some tot → ∀ i,off ≤ i → i < tot → ∃ p ∈ l,p.1 ≤ i ∧ i < p.1 + p.2
  | [],off,tot,h,i,h1,h2 => by simp only [sumPc,Option.some.injEq] at h; omega
  | (o, k) :: r,off,tot,h,i,h1,h2 => by
    simp only [sumPc] at h
    cases c : Nat.beq o off <;> rw [c] at h
    · cases h
    · have e : o = off := by simpa using c
      subst e
      by_cases hi : i < o + k
      · exact ⟨(o,k),by simp,h1,hi⟩
      · obtain ⟨p,hp,h3⟩ := sumPc_in r _ _ h i (by omega) h2
        exact ⟨p,by simp [hp],h3⟩
omit [Glo] in
theorem pcsF_in {P : Program} {g : TypeId → Option Nat} : ∀ (fs : List Field) (l : List (Nat × Nat)),pcsF P g fs = some l → ∀ p ∈ l,∃ (i : Nat) (f : Field),fs[i]? = some f ∧ f.offset = p.1 ∧ g f.type = some p.2 ∧ P.cellsOf f.type = p.2
  | [],l,h,p,hp => by simp only [pcsF,Option.some.injEq] at h; subst h; cases hp
  | f :: r, l,h,p,hp => by
    simp only [pcsF] at h
    split at h
    · rename_i k hk
      split at h
      · rename_i l' hl'
        cases c : Nat.beq (P.cellsOf f.type) k <;> rw [c] at h
        · cases h
        · simp only [cond_true,Option.some.injEq] at h
          subst h
          rcases List.mem_cons.1 hp with rfl | hp
          · exact ⟨0,f,rfl,rfl,hk,by simpa using c⟩
          · obtain ⟨i,f',h1,h2⟩ := pcsF_in r l' hl' p hp
            exact ⟨i + 1,f',by simpa using h1,h2⟩
      · cases h
    · cases h
section
variable {H : Type} {enc : TypeId × Value → H} {P : Program} {w : World} {base : Nat} {sp : Nat → Bool} {held : Bool}
omit [Glo] in
theorem u8T_ok : ∀ (n : Nat) (t : TypeId) (fuel : Nat) (cs : List Value) (x : DataW H × List MemPlace) (k : Nat),u8T P n t = some k → DataW.trod enc P w base sp held fuel t cs = some x → U8s cs ∧ cs.length = k
  | 0,_,_,_,_,_,h,_ => by cases h
  | n + 1,t,fuel,cs,x,k,h,hx => by
    simp only [u8T] at h
    split at h
    · rename_i ht
      cases h
      obtain ⟨a,rfl,_,hw⟩ := DataW.trod_int ht hx
      refine ⟨fun i v hv => ?_,rfl⟩
      match i with
      | 0 => simp at hv; subst hv; exact ⟨a,rfl,hw⟩
      | i + 1 => simp at hv
    · rename_i m e ht
      split at h
      · rename_i k' hk'
        cases c : (Nat.beq (P.cellsOf e) k' && Nat.beq (P.cellsOf t) (m * k')) <;> rw [c] at h
        · cases h
        · simp only [cond_true,Option.some.injEq] at h
          subst h
          simp only [Bool.and_eq_true] at c
          have c1 : P.cellsOf e = k' := by simpa using c.1
          have c2 : P.cellsOf t = m * k' := by simpa using c.2
          obtain ⟨xs,m',_,_,hl,hxl,hf⟩ := DataW.trod_array ht hx
          rw [c2] at hl
          refine ⟨fun i v hv => ?_,hl⟩
          have hi : i < m * k' := by rw [← hl]; exact (List.getElem?_eq_some_iff.1 hv).1
          have hk0 : 0 < k' := by
            rcases Nat.eq_zero_or_pos k' with e0 | e0
            · rw [e0] at hi; simp at hi
            · exact e0
          have h1 : i / k' < m := (Nat.div_lt_iff_lt_mul hk0).2 hi
          have h2 : i % k' < k' := Nat.mod_lt _ hk0
          have h3 : (i / k') * k' + i % k' = i := by rw [Nat.mul_comm]; exact Nat.div_add_mod i k'
          have h4 := hf (i / k') h1
          rw [c1] at h4
          obtain ⟨y,hy⟩ : ∃ y,xs[i / k']? = some y := ⟨xs[i / k']'(by omega),List.getElem?_eq_getElem (by omega)⟩
          rw [hy] at h4
          obtain ⟨h5,_⟩ := u8T_ok n e m' _ y k' hk' h4
          refine h5 (i % k') v ?_
          rw [List.getElem?_take,if_pos h2,List.getElem?_drop,h3]
          exact hv
      · cases h
    · rename_i fs ht
      split at h
      · rename_i l hl'
        split at h
        · rename_i k' hk'
          cases c : Nat.beq (P.cellsOf t) k' <;> rw [c] at h
          · cases h
          · simp only [cond_true,Option.some.injEq] at h
            subst h
            have c2 : P.cellsOf t = k' := by simpa using c
            obtain ⟨xs,m',_,_,hl,hxl,hf⟩ := DataW.trod_struct ht hx
            rw [c2] at hl
            refine ⟨fun i v hv => ?_,hl⟩
            have hi : i < k' := by rw [← hl]; exact (List.getElem?_eq_some_iff.1 hv).1
            obtain ⟨p,hp,p1,p2⟩ := sumPc_in l 0 k' hk' i (Nat.zero_le _) hi
            obtain ⟨j,f,f1,f2,f3,f4⟩ := pcsF_in _ _ hl' p hp
            have f1' : fs[j]? = some f := by simpa using f1
            have hj : j < fs.size := (Array.getElem?_eq_some_iff.1 f1').1
            have h4 := hf j f f1'
            rw [f4,f2] at h4
            obtain ⟨y,hy⟩ : ∃ y,xs[j]? = some y := ⟨xs[j]'(by omega),List.getElem?_eq_getElem (by omega)⟩
            rw [hy] at h4
            obtain ⟨h5,_⟩ := u8T_ok n f.type m' _ y p.2 f3 h4
            refine h5 (i - p.1) v ?_
            rw [List.getElem?_take,if_pos (by omega),List.getElem?_drop,show p.1 + (i - p.1) = i by omega]
            exact hv
        · cases h
      · cases h
    · cases h
omit [Glo] in
theorem u8s_list : ∀ {cs : List Value},U8s cs → ∃ ns : List Int,cs = ns.map (Value.int .u8) ∧ ∀ n ∈ ns,0 ≤ n ∧ n < 256
  | [],_ => ⟨[],rfl,by simp⟩
  | v :: r,h => by
    obtain ⟨n,rfl,hw⟩ := h 0 v rfl
    obtain ⟨ns,e,hb⟩ := u8s_list (cs := r) fun i v hv => h (i + 1) v (by simpa using hv)
    refine ⟨n :: ns,by rw [e]; rfl,?_⟩
    intro x hx
    rcases List.mem_cons.1 hx with rfl | hx
    · have := bounds_u8 hw; omega
    · exact hb x hx
omit [Glo] in
theorem argOk_bytes (w : World) (ns : List Int) : ArgOk w (.agg (ns.map (Value.int .u8)).toArray) (.agg (ns.map (LV.int .u8))) := by
  refine ⟨fun _ => [],[],fun _ => .agg (ns.map (AV.int .u8)),fun _ => rfl,fun ρ b _ => ⟨.agg ?_,fun i cs p h => by simp at h⟩,fun s b _ => .agg ?_⟩
  · show VRs ρ _ (ns.map (Value.int .u8)).toArray.toList
    simp only []
    induction ns with
    | nil => exact .nil
    | cons n r ih => exact .cons (.int _ _) ih
  · exact LRs.map _ fun x _ => .int _ _
omit [Glo] in
theorem argOk_struct {r : Reach} {b0 n k : Nat} {t : TypeId} {fs : Array Field} {v : Value} {d : DataW H} {ps : List MemPlace} (ht : P.underlying t = some (.struct fs)) (hk : u8T P n t = some k)
    (hval : Value.okWide P w r b0 t v) (hd : DataW.Trod enc P w base sp held t v d ps) :
    ∃ ns : List Int,ns.length = k ∧ (∀ n ∈ ns,0 ≤ n ∧ n < 256) ∧ ArgOk w v (.agg (ns.map (LV.int .u8))) := by
  obtain ⟨cs,rfl,_⟩ := Go.WideShapes.okWide_struct ht hval
  obtain ⟨fuel,hf⟩ := hd
  obtain ⟨h1,h2⟩ := u8T_ok n t fuel _ _ k hk hf
  obtain ⟨ns,e,hb⟩ := u8s_list h1
  have e' : cs = (ns.map (Value.int .u8)).toArray := by
    apply Array.ext'
    simpa [Value.cells] using e
  subst e'
  refine ⟨ns,?_,hb,argOk_bytes w ns⟩
  simpa [Value.cells] using h2
end
end Go.Am
set_option linter.unusedVariables false
namespace Go.Am
open Go.RowKit
theorem laid_u8 {H : Type} {enc : TypeId × Value → H} {P : Program} {w : World} {base : Nat} {sp : Nat → Bool} {held : Bool} {n : Nat} {e t : TypeId} {fuel : Nat} {cs : List Value} {l : List Int} {p : List MemPlace}
    (ht : P.underlying t = some (.array n e)) (he : P.underlying e = some (.int .u8)) (hc : P.cellsOf e = 1) (hct : P.cellsOf t = n)
    (hd : DataW.trod enc P w base sp held fuel t cs = some (.agg (l.map fun x => .lit (.int .u8 x)),p)) : cs = l.map (Value.int .u8) := by
  obtain ⟨xs,m,_,hx1,hlen,hn,hel⟩ := DataW.trod_array ht hd
  simp only [Prod.mk.injEq,DataW.agg.injEq] at hx1
  have hl : l.length = n := by
    have := congrArg List.length hx1.1
    simpa [hn] using this
  rw [hct] at hlen
  apply List.ext_getElem (by simp [hlen,hl])
  intro i h1 h2
  have hi : i < n := by omega
  have h := hel i hi
  rw [hc,Nat.mul_one,List.getElem?_eq_getElem (by omega)] at h
  obtain ⟨k,e1,e2,_⟩ := DataW.trod_int he h
  have e3 : (xs.map (·.1))[i]? = (l.map fun x => DataW.lit (Lit.int .u8 x))[i]? := by rw [hx1.1]
  rw [List.getElem?_map,List.getElem?_map,List.getElem?_eq_getElem (by omega),List.getElem?_eq_getElem (by omega),e2] at e3
  simp only [Option.map_some,Option.some.injEq,DataW.lit.injEq,Lit.int.injEq,true_and] at e3
  have e4 : cs[i]? = some (.int .u8 k) := by
    have := congrArg (fun q : List Value => q[0]?) e1
    simp only [List.getElem?_take,List.getElem?_drop,Nat.add_zero,Nat.zero_lt_one,if_true] at this
    simpa using this
  rw [List.getElem?_eq_getElem h1] at e4
  rw [Option.some.inj e4,List.getElem_map,e3]
theorem laid_pick {P : Program} {w : World} : ∀ {laid : List (String × DataW Unit)} {ps : List MemPlace},DataW.LaidVars P w laid ps → ∀ {k : Nat} {n : String} {d : DataW Unit},laid[k]? = some (n,d) →
    ∃ g t cs fuel p,P.globalNamed n = some g ∧ (P.globals[g]?).map (·.type) = some t ∧ w.var? P n = some cs ∧ DataW.trod (fun _ => ()) P w 0 (fun _ => true) false fuel t cs.toList = some (d,p)
  | [],_,_,k,n,d,hk => by simp at hk
  | (n0,d0) :: r,ps,h,k,n,d,hk => by
    obtain ⟨g,t,cs,fuel,p,q,h1,h2,h3,h4,h5,_⟩ := h
    cases k with
    | zero => cases hk; exact ⟨g,t,cs,fuel,p,h1,h2,h3,h4⟩
    | succ k => exact laid_pick h5 (by simpa using hk)
theorem laid_at {P : Program} {w : World} {laid : List (String × DataW Unit)} (h : laidMetH P laid w) (hn : (laid.all fun x => x.2.handleName?.isNone) = true) {k : Nat} {nm : String} {l : List Int} (hk : laid[k]? = some (nm,.agg (l.map fun x => .lit (.int .u8 x))))
    {g n : Nat} {t e : TypeId} (hg : P.globalNamed nm = some g) (hty : (P.globals[g]?).map (·.type) = some t) (ht : P.underlying t = some (.array n e)) (he : P.underlying e = some (.int .u8)) (hc : P.cellsOf e = 1) (hct : P.cellsOf t = n) (ρ : PM) :
    CellsAt ρ w (l.map (AV.int .u8)) ⟨g,0,0,false⟩ := by
  rw [MakeChecks.laidMetH_plain _ _ _ hn] at h
  obtain ⟨ps,hv,_⟩ := h
  obtain ⟨g',t',cs,fuel,p,h1,h2,h3,h4⟩ := laid_pick hv hk
  obtain rfl := Option.some.inj (hg.symm.trans h1)
  obtain rfl := Option.some.inj (hty.symm.trans h2)
  have hcs := laid_u8 ht he hc hct h4
  refine ⟨fun j c hj => ?_⟩
  rw [List.getElem?_map] at hj
  obtain ⟨x,hx,rfl⟩ := Option.map_eq_some_iff.1 hj
  refine ⟨.int .u8 x,?_,.int _ _⟩
  have := World.var?_cell hg h3 (0 + j)
  rw [this,Nat.zero_add,← Array.getElem?_toList,hcs,List.getElem?_map,hx]; rfl
end Go.Am
