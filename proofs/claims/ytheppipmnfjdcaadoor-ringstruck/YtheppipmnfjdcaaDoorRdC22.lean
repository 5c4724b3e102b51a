import Derived.Test.YtheppipmnfjdcaaDoorRdC14
import Derived.Test.YtheppipmnfjdcaaDoorLm15
set_option linter.unusedVariables false
set_option linter.unusedSimpArgs false
set_option maxRecDepth 10000
namespace Go.Am.Ring
open Go.Am.G
theorem app_gv (m : LMem) (b : Nat) (l : List Int) (x : Int) (ex : Bool) (hl : l.length < 1000000) (h : l ≠ [] → m[b]? = some ⟨ints l,true⟩) :
    appendL m 1 8 (GV b l) (.lst false ex 1 1 [.int .i64 x]) = some (GV (if l = [] then m.length else b) (l ++ [x]),if l = [] then m ++ [⟨ints (l ++ [x]),true⟩] else m.set b ⟨ints (l ++ [x]),true⟩) := by
  by_cases hn : l = []
  · subst hn
    simp [appendL,contents,GV,newSl,LV.scalar,roomMost,nbeq,nble]
  · have h1 := h hn
    have h2 : contents m 1 (GV b l) = some (l.map (LV.int .i64),l.length) := by
      simp only [GV,if_neg hn,contents,h1]
      simp only [List.drop_zero,Nat.mul_one,List.length_map,Nat.zero_add,nble,nbeq,Nat.le_refl,decide_true,Bool.and_self,cond_true]
      rw [List.take_of_length_le (by simp)]
    have h3 : contents m 1 (.lst false ex 1 1 [.int .i64 x]) = some ([.int .i64 x],1) := rfl
    have h4 : (Nat.ble ((l.length + 1) * 8) roomMost && Nat.ble (l.length + 1) roomMost && [LV.int .i64 x].all LV.scalar) = true := by rw [room_of hl]; rfl
    have h5 : Nat.ble (l.length + 1) l.length = false := by rw [nble]; simp
    have h6 : Nat.blt l.length (l.length + 1) = true := by rw [nblt]; simp
    rw [if_neg hn,if_neg hn]
    unfold appendL
    simp only [h2,h3,h4]
    simp only [GV,if_neg hn,h1,h5,Nat.mul_one,h6]
    simp [nbeq]
def frmK (P : List (Nat × Nat)) (k x : Nat) : List Nat := (List.range k).filter fun i => decide (st P i = x)
theorem frmK_succ (P : List (Nat × Nat)) (k x : Nat) : frmK P (k + 1) x = if st P k = x then frmK P k x ++ [k] else frmK P k x := by
  unfold frmK
  rw [List.range_succ,List.filter_append]
  by_cases c : st P k = x
  · simp [c]
  · simp [c]
theorem frmK_len (P : List (Nat × Nat)) (k x : Nat) : (frmK P k x).length ≤ k := by
  have := List.length_filter_le (fun i => decide (st P i = x)) (List.range k)
  rw [List.length_range] at this
  exact this
def KE (P : List (Nat × Nat)) (k : Nat) (β : Nat → Nat) (keys : List Nat) : List (Nat × LV) := keys.map fun x => (x,GV (β x) (ci (frmK P k x)))
structure FJ (P : List (Nat × Nat)) (N k : Nat) (fv each : LV) (β : Nat → Nat) (keys : List Nat) (m : LMem) : Prop where
  f0 : m[N]? = some ⟨[fv],true⟩
  f1 : m[N + 1]? = some ⟨[each],true⟩
  f2 : m[N + 2]? = some ⟨[.ents (entM (KE P k β keys))],true⟩
  f3 : m[N + 3]? = some ⟨[.map (N + 2)],true⟩
  nd : keys.Nodup
  cov : ∀ x,x ∉ keys → frmK P k x = []
  blk : ∀ x ∈ keys,frmK P k x ≠ [] ∧ N + 4 ≤ β x ∧ m[β x]? = some ⟨ints (ci (frmK P k x)),true⟩
  inj : ∀ x ∈ keys,∀ y ∈ keys,β x = β y → x = y
theorem ci_nil {l : List Nat} : ci l = [] ↔ l = [] := by cases l <;> simp
theorem get_lt {m : LMem} {i : Nat} {b : LBlk} (h : m[i]? = some b) : i < m.length := (List.getElem?_eq_some_iff.1 h).1
theorem FJ.look {P : List (Nat × Nat)} {N k : Nat} {fv each : LV} {β : Nat → Nat} {keys : List Nat} {m : LMem} (J : FJ P N k fv each β keys m) (x : Nat) : ∃ b,lookL m false (.lst true true 0 0 []) (.map (N + 2)) (.int .i64 (x : Int)) = some (GV b (ci (frmK P k x))) ∧ (frmK P k x ≠ [] → x ∈ keys ∧ b = β x) := by
  by_cases hx : x ∈ keys
  · refine ⟨β x,?_,fun _ => ⟨hx,rfl⟩⟩
    obtain ⟨A,B,rfl⟩ := List.append_of_mem hx
    have hn : ∀ e ∈ KE P k β A,e.1 ≠ x := by
      intro e he
      simp only [KE,List.mem_map] at he
      obtain ⟨y,hy,rfl⟩ := he
      rintro rfl
      have := J.nd
      rw [List.nodup_append] at this
      exact this.2.2 _ hy _ (by simp) rfl
    have e : KE P k β (A ++ x :: B) = KE P k β A ++ (x,GV (β x) (ci (frmK P k x))) :: KE P k β B := by simp [KE]
    have := find_some x (GV (β x) (ci (frmK P k x))) (KE P k β B) (KE P k β A) 0 hn
    rw [← e] at this
    simp only [lookL,LV.isInt,cond_true,entsL,J.f2,this,cond_false]
  · refine ⟨0,?_,fun h => absurd (J.cov x hx) h⟩
    have hn : ∀ e ∈ KE P k β keys,e.1 ≠ x := by
      intro e he
      simp only [KE,List.mem_map] at he
      obtain ⟨y,hy,rfl⟩ := he
      rintro rfl; exact hx hy
    have := find_none x (KE P k β keys) 0 hn
    simp only [lookL,LV.isInt,cond_true,entsL,J.f2,this,cond_false,J.cov x hx]
    rfl
theorem GV_noRef {b i : Nat} {l : List Int} (h : l ≠ [] → b ≠ i) : LV.noRef i (GV b l) = true := by
  unfold GV
  split
  · rfl
  · rename_i c
    simp only [LV.noRef,nbeq,Bool.not_eq_true',decide_eq_false_iff_not]
    exact h c
theorem FJ.step {P : List (Nat × Nat)} {N k : Nat} {fv each : LV} {β : Nat → Nat} {keys : List Nat} {m : LMem} (J : FJ P N k fv each β keys m) (hk : k < 1000) (pr : LBlk) (hpr : ∀ i,LV.noRefs i pr.cells = true) (hC : Cl m) :
    ∃ v v' m2 m3 β' keys',lookL (m ++ [pr]) false (.lst true true 0 0 []) (.map (N + 2)) (.int .i64 (st P k : Int)) = some v ∧ appendL (m ++ [pr]) 1 8 v (.lst false true 1 1 [.int .i64 (k : Int)]) = some (v',m2) ∧ putML m2 (.map (N + 2)) (.int .i64 (st P k : Int)) v' = some m3 ∧
      FJ P N (k + 1) fv each β' keys' m3 ∧ Cl m3 ∧ m.length ≤ m3.length ∧ (∀ i,i < N → m3[i]? = m[i]?) ∧ m2[N + 3]? = some ⟨[.map (N + 2)],true⟩ ∧ m2[m.length]? = some pr ∧ (v = .lst true true 0 0 [] ∨ ∃ b n,v = .sl b 0 n n 1 1 n ∧ ¬ N + 3 = b ∧ ¬ m.length = b ∧ ¬ m.length + 1 ≤ b) := by
  have l3 := get_lt J.f3
  have up : ∀ {i : Nat} {b : LBlk},m[i]? = some b → (m ++ [pr])[i]? = some b := fun h => by rw [List.getElem?_append_left (get_lt h)]; exact h
  have J1 : FJ P N k fv each β keys (m ++ [pr]) := ⟨up J.f0,up J.f1,up J.f2,up J.f3,J.nd,J.cov,fun x hx => ⟨(J.blk x hx).1,(J.blk x hx).2.1,up (J.blk x hx).2.2⟩,J.inj⟩
  have hlast : (m ++ [pr])[m.length]? = some pr := by simp
  have C1 : Cl (m ++ [pr]) := (Exn.app [] hpr).cl hC
  obtain ⟨b,hlk,hb⟩ := J1.look (st P k)
  have hlen := frmK_len P k (st P k)
  have hcl : (ci (frmK P k (st P k))).length < 1000000 := by rw [ci_len]; omega
  have hsucc : ci (frmK P (k + 1) (st P k)) = ci (frmK P k (st P k)) ++ [(k : Int)] := by rw [frmK_succ,if_pos rfl]; simp
  have hne' : frmK P (k + 1) (st P k) ≠ [] := by rw [frmK_succ,if_pos rfl]; simp
  have hoth : ∀ y,y ≠ st P k → frmK P (k + 1) y = frmK P k y := fun y hy => by rw [frmK_succ,if_neg (fun e => hy e.symm)]
  by_cases c : frmK P k (st P k) = []
  · -- a form that is not met yet
    have hnk : st P k ∉ keys := fun h => (J.blk _ h).1 c
    have hap := app_gv (m ++ [pr]) b (ci (frmK P k (st P k))) (k : Int) true hcl (fun h => absurd (ci_nil.2 c) h)
    rw [if_pos (ci_nil.2 c),if_pos (ci_nil.2 c),← hsucc] at hap
    have hgv : GV b (ci (frmK P k (st P k))) = .lst true true 0 0 [] := by rw [c]; rfl
    have hL1 : (m ++ [pr]).length = m.length + 1 := by simp
    rw [hL1] at hap
    have hfn : findML (.int .i64 (st P k : Int)) (entM (KE P k β keys)) 0 = some none := find_none _ _ 0 (by
      intro e he
      simp only [KE,List.mem_map] at he
      obtain ⟨y,hy,rfl⟩ := he
      rintro rfl; exact hnk hy)
    let β' : Nat → Nat := fun y => if y = st P k then m.length + 1 else β y
    have hKE : entM (KE P k β keys) ++ [.int .i64 (st P k : Int),GV (m.length + 1) (ci (frmK P (k + 1) (st P k)))] = entM (KE P (k + 1) β' (keys ++ [st P k])) := by
      rw [entM_snoc]
      congr 1
      simp only [KE,List.map_append,List.map_cons,List.map_nil]
      congr 1
      · refine List.map_congr_left fun y hy => ?_
        have : y ≠ st P k := fun e => hnk (e ▸ hy)
        simp only [β',if_neg this,hoth y this]
      · simp [β']
    have up2 : ∀ {i : Nat} {b : LBlk},m[i]? = some b → (m ++ [pr] ++ [⟨ints (ci (frmK P (k + 1) (st P k))),true⟩])[i]? = some b := fun h => by rw [List.getElem?_append_left (get_lt (up h))]; exact up h
    have up3 : ∀ {i : Nat} {b c : LBlk},m[i]? = some b → ¬ N + 2 = i → ((m ++ [pr] ++ [(⟨ints (ci (frmK P (k + 1) (st P k))),true⟩ : LBlk)]).set (N + 2) c)[i]? = some b := fun h hn => by rw [List.getElem?_set_ne hn]; exact up2 h
    refine ⟨_,_,_,(m ++ [pr] ++ [(⟨ints (ci (frmK P (k + 1) (st P k))),true⟩ : LBlk)]).set (N + 2) ⟨[.ents (entM (KE P (k + 1) β' (keys ++ [st P k])))],true⟩,β',keys ++ [st P k],hlk,hap,?_,?_,?_,by simp,?_,up2 J.f3,?_,.inl hgv⟩
    · simp only [putML,LV.isInt,cond_true,up2 J.f2,hfn,hKE]
    · refine ⟨up3 J.f0 (by omega),up3 J.f1 (by omega),by rw [List.getElem?_set_self (by simp; omega)],up3 J.f3 (by omega),?_,?_,?_,?_⟩
      · rw [List.nodup_append]
        exact ⟨J.nd,by simp,fun a ha b hb e => by rw [List.mem_singleton.1 hb] at e; exact hnk (e ▸ ha)⟩
      · intro x hx
        have h1 : x ∉ keys := fun h => hx (by simp [h])
        have h2 : x ≠ st P k := fun h => hx (by simp [h])
        rw [hoth x h2]; exact J.cov x h1
      · intro x hx
        rcases List.mem_append.1 hx with h | h
        · have h2 : x ≠ st P k := fun e => hnk (e ▸ h)
          obtain ⟨b1,b2,b3⟩ := J.blk x h
          simp only [β',if_neg h2,hoth x h2]
          exact ⟨b1,b2,up3 b3 (by omega)⟩
        · rw [List.mem_singleton.1 h]
          simp only [β',if_true]
          refine ⟨hne',by omega,?_⟩
          rw [List.getElem?_set_ne (by omega)]
          simp
      · intro x hx y hy hxy
        have hlt : ∀ z ∈ keys,β z < m.length := fun z hz => get_lt (J.blk z hz).2.2
        rcases List.mem_append.1 hx with h | h <;> rcases List.mem_append.1 hy with h' | h'
        · have h2 : x ≠ st P k := fun e => hnk (e ▸ h)
          have h3 : y ≠ st P k := fun e => hnk (e ▸ h')
          simp only [β',if_neg h2,if_neg h3] at hxy
          exact J.inj x h y h' hxy
        · have h2 : x ≠ st P k := fun e => hnk (e ▸ h)
          rw [List.mem_singleton.1 h'] at hxy
          simp only [β',if_neg h2,if_true] at hxy
          have := hlt x h; omega
        · have h2 : y ≠ st P k := fun e => hnk (e ▸ h')
          rw [List.mem_singleton.1 h] at hxy
          simp only [β',if_neg h2,if_true] at hxy
          have := hlt y h'; omega
        · rw [List.mem_singleton.1 h,List.mem_singleton.1 h']
    · intro i hi
      simp at hi
      refine NR.set ((C1 i (by simp; omega)).app (noRefs_int i _ _)) ?_
      simp only [LV.noRefs,LV.noRef,Bool.and_true]
      rw [entM_noRefs]
      intro e he
      simp only [KE,List.mem_map] at he
      obtain ⟨y,hy,rfl⟩ := he
      refine GV_noRef fun _ => ?_
      rcases List.mem_append.1 hy with h | h
      · have h2 : y ≠ st P k := fun e => hnk (e ▸ h)
        have := get_lt (J.blk y h).2.2
        simp only [β',if_neg h2]; omega
      · rw [List.mem_singleton.1 h]
        simp only [β',if_true]; omega
    · intro i hi
      rw [List.getElem?_set_ne (by omega),List.append_assoc,List.getElem?_append_left (by omega)]
    · rw [List.getElem?_append_left (by simp)]; exact hlast
  · -- a form that is met
    obtain ⟨hx,rfl⟩ := hb c
    obtain ⟨c1,c2,c3⟩ := J.blk _ hx
    have hbl := get_lt c3
    have hcn : ci (frmK P k (st P k)) ≠ [] := fun h => c (ci_nil.1 h)
    have hap := app_gv (m ++ [pr]) (β (st P k)) (ci (frmK P k (st P k))) (k : Int) true hcl (fun _ => up c3)
    rw [if_neg hcn,if_neg hcn,← hsucc] at hap
    obtain ⟨A,B,hAB⟩ := List.append_of_mem hx
    have hnd := J.nd
    rw [hAB,List.nodup_append] at hnd
    have hnA : ∀ y ∈ A,y ≠ st P k := fun y hy e => hnd.2.2 y hy _ (by simp) e
    have hnB : ∀ y ∈ B,y ≠ st P k := fun y hy e => (List.nodup_cons.1 hnd.2.1).1 (e ▸ hy)
    have hn : ∀ e ∈ KE P k β A,e.1 ≠ st P k := by
      intro e he
      simp only [KE,List.mem_map] at he
      obtain ⟨y,hy,rfl⟩ := he
      exact hnA y hy
    have e : KE P k β keys = KE P k β A ++ (st P k,GV (β (st P k)) (ci (frmK P k (st P k)))) :: KE P k β B := by rw [hAB]; simp [KE]
    have e2 : KE P (k + 1) β keys = KE P k β A ++ (st P k,GV (β (st P k)) (ci (frmK P (k + 1) (st P k)))) :: KE P k β B := by
      rw [hAB]
      simp only [KE,List.map_append,List.map_cons]
      congr 1
      · exact List.map_congr_left fun y hy => by rw [hoth y (hnA y hy)]
      · congr 1
        exact List.map_congr_left fun y hy => by rw [hoth y (hnB y hy)]
    have hfs := find_some (st P k) (GV (β (st P k)) (ci (frmK P k (st P k)))) (KE P k β B) (KE P k β A) 0 hn
    rw [← e] at hfs
    have hset := entM_set (st P k) (GV (β (st P k)) (ci (frmK P k (st P k)))) (GV (β (st P k)) (ci (frmK P (k + 1) (st P k)))) (KE P k β B) (KE P k β A)
    rw [← e,← e2] at hset
    have up2 : ∀ {i : Nat} {b c : LBlk},m[i]? = some b → ¬ β (st P k) = i → ((m ++ [pr]).set (β (st P k)) c)[i]? = some b := fun h hn => by rw [List.getElem?_set_ne hn]; exact up h
    have up3 : ∀ {i : Nat} {b c d : LBlk},m[i]? = some b → ¬ β (st P k) = i → ¬ N + 2 = i → (((m ++ [pr]).set (β (st P k)) c).set (N + 2) d)[i]? = some b := fun h hn hn2 => by rw [List.getElem?_set_ne hn2]; exact up2 h hn
    refine ⟨_,_,_,((m ++ [pr]).set (β (st P k)) ⟨ints (ci (frmK P (k + 1) (st P k))),true⟩).set (N + 2) ⟨[.ents (entM (KE P (k + 1) β keys))],true⟩,β,keys,hlk,hap,?_,?_,?_,by simp,?_,up2 J.f3 (by omega),?_,.inr ⟨β (st P k),(ci (frmK P k (st P k))).length,by simp only [GV,if_neg hcn],by omega,by omega,by omega⟩⟩
    · simp only [putML,LV.isInt,cond_true,up2 J.f2 (show ¬ β (st P k) = N + 2 by omega),hfs,hset]
    · refine ⟨up3 J.f0 (by omega) (by omega),up3 J.f1 (by omega) (by omega),by rw [List.getElem?_set_self (by simp; omega)],up3 J.f3 (by omega) (by omega),J.nd,?_,?_,J.inj⟩
      · intro x hx'
        rw [hoth x (fun h => hx' (h ▸ hx))]; exact J.cov x hx'
      · intro x hx'
        by_cases hxe : x = st P k
        · subst hxe
          refine ⟨hne',c2,?_⟩
          rw [List.getElem?_set_ne (by omega),List.getElem?_set_self (by simp; omega)]
        · obtain ⟨d1,d2,d3⟩ := J.blk x hx'
          rw [hoth x hxe]
          exact ⟨d1,d2,up3 d3 (fun h => hxe (J.inj x hx' _ hx h.symm)) (by omega)⟩
    · intro i hi
      simp at hi
      refine NR.set (NR.set (C1 i (by simp; omega)) (noRefs_int i _ _)) ?_
      simp only [LV.noRefs,LV.noRef,Bool.and_true]
      rw [entM_noRefs]
      intro e he
      simp only [KE,List.mem_map] at he
      obtain ⟨y,hy,rfl⟩ := he
      have := get_lt (J.blk y hy).2.2
      exact GV_noRef fun _ => by omega
    · intro i hi
      rw [List.getElem?_set_ne (by omega),List.getElem?_set_ne (by omega),List.getElem?_append_left (by omega)]
    · rw [List.getElem?_set_ne (by omega)]; exact hlast
theorem FJ.trim {P : List (Nat × Nat)} {N k : Nat} {fv each : LV} {β : Nat → Nat} {keys : List Nat} {m : LMem} (J : FJ P N k fv each β keys m) (hC : Cl m) (l : Nat) (hl : N + 4 ≤ l) (hl2 : l ≤ m.length) (vs : List LV) : FJ P N k fv each β keys (trim l vs m) ∧ Cl (trim l vs m) ∧ N + 4 ≤ (trim l vs m).length ∧ ∀ i,i < N → (trim l vs m)[i]? = m[i]? := by
  rcases trim_or l vs m with e | ⟨e,hb⟩
  · rw [e]; exact ⟨J,hC,by omega,fun _ _ => rfl⟩
  · rw [e]
    have g : ∀ {i : Nat},i < l → (m.take l)[i]? = m[i]? := fun h => by rw [List.getElem?_take,if_pos h]
    have hll : (m.take l).length = l := by rw [List.length_take]; omega
    refine ⟨⟨by rw [g (by omega)]; exact J.f0,by rw [g (by omega)]; exact J.f1,by rw [g (by omega)]; exact J.f2,by rw [g (by omega)]; exact J.f3,J.nd,J.cov,fun x hx => ?_,J.inj⟩,fun i hi => belowM_cl hb i (by omega),by omega,fun i hi => g (by omega)⟩
    obtain ⟨d1,d2,d3⟩ := J.blk x hx
    refine ⟨d1,d2,?_⟩
    rw [g,d3]
    unfold belowM at hb
    rw [List.all_eq_true] at hb
    have := hb ⟨[.ents (entM (KE P k β keys))],true⟩ (by
      have h2 := J.f2
      rw [← g (show N + 2 < l by omega)] at h2
      exact List.mem_of_getElem? h2)
    simp only [LV.unders,LV.under,Bool.and_true] at this
    rw [entM_unders] at this
    have := this (x,GV (β x) (ci (frmK P k x))) (List.mem_map.2 ⟨x,hx,rfl⟩)
    have hcn : ci (frmK P k x) ≠ [] := fun h => d1 (ci_nil.1 h)
    simp only [GV,if_neg hcn,LV.under,nblt,decide_eq_true_eq] at this
    exact this
theorem set_last (m : LMem) (a b : LBlk) : (m ++ [a]).set m.length b = m ++ [b] := by simp
theorem get_last (m : LMem) (a : LBlk) : (m ++ [a])[m.length]? = some a := by simp
end Go.Am.Ring
set_option linter.unusedVariables false
set_option linter.unusedSimpArgs false
set_option maxRecDepth 10000
namespace Go.Am.Ring
open Go.Am.G
structure RVis (σ : Type) (N : Nat) where
  I : σ → List Nat → LMem → Prop
  vis : σ → List Nat → σ
  f : Nat
  first : List LV
  cap : List LV
  size : σ → Nat
  hsz : ∀ s r,size (vis s r) ≤ size s + 1
  hI : ∀ s O m m',I s O m → (∀ i ∈ O,m'[i]? = m[i]?) → I s O m'
  hlt : ∀ s O m,I s O m → ∀ i ∈ O,i < m.length
  hT : ∀ s O m k,I s O m → N ≤ k → belowM k (m.take k) = true → ∀ i ∈ O,i < k
  hvis : ∀ s O m r,I s O m → r ≠ [] → r.length ≤ 6 → size s < 100000000 → N ≤ m.length → Cl m → ∃ m' O',clF LP f (first ++ ([.sl m.length 0 r.length r.length 1 1 r.length] ++ cap)) (m ++ [⟨ints (ci r),true⟩]) = some (.W,.bool true,m') ∧ I (vis s r) O' m' ∧ Exn m m' O ∧ ∀ i ∈ O',i ∈ O ∨ m.length ≤ i
theorem RVis.hszl {σ : Type} {N : Nat} (X : RVis σ N) : ∀ (l : List (List Nat)) (s : σ),X.size (l.foldl X.vis s) ≤ X.size s + l.length
  | [],s => by simp
  | a :: r,s => by
    have h1 := X.hsz s a
    have h2 := X.hszl r (X.vis s a)
    rw [List.foldl_cons,List.length_cons]; omega
theorem RVis.trim {σ : Type} {N : Nat} (X : RVis σ N) {s : σ} {O : List Nat} {m : LMem} (h : X.I s O m) (k : Nat) (hk : N ≤ k) (vs : List LV) : X.I s O (trim k vs m) := by
  rcases trim_or k vs m with e | ⟨e,hb⟩
  · rw [e]; exact h
  · rw [e]
    refine X.hI s O m _ h fun i hi => ?_
    rw [List.getElem?_take,if_pos (X.hT s O m k h hk hb i hi)]
structure WB {σ : Type} {N : Nat} (X : RVis σ N) (P : List (Nat × Nat)) (fv : LV) (w : Nat) (β : Nat → Nat) (keys : List Nat) (m : LMem) : Prop where
  J : FJ P N P.length fv (.func X.f X.first X.cap) β keys m
  hw : N + 3 < w
  fw : m[w]? = some ⟨[.func n_ring_rings_1 [] [.ptr N 0 1,.ptr (N + 1) 0 1,.ptr (N + 3) 0 1,.ptr w 0 1]],true⟩
  hb : ∀ x ∈ keys,β x < w
theorem WB.mono {σ : Type} {N : Nat} {X : RVis σ N} {P : List (Nat × Nat)} {fv : LV} {w : Nat} {β : Nat → Nat} {keys : List Nat} {m m' : LMem} (h : WB X P fv w β keys m) (e : ∀ i,N ≤ i → i ≤ w → m'[i]? = m[i]?) : WB X P fv w β keys m' := by
  have hw := h.hw
  refine ⟨⟨by rw [e _ (by omega) (by omega)]; exact h.J.f0,by rw [e _ (by omega) (by omega)]; exact h.J.f1,by rw [e _ (by omega) (by omega)]; exact h.J.f2,by rw [e _ (by omega) (by omega)]; exact h.J.f3,h.J.nd,h.J.cov,fun x hx => ?_,h.J.inj⟩,hw,by rw [e _ (by omega) (by omega)]; exact h.fw,h.hb⟩
  obtain ⟨d1,d2,d3⟩ := h.J.blk x hx
  have := h.hb x hx
  exact ⟨d1,d2,by rw [e _ (by omega) (by omega)]; exact d3⟩
end Go.Am.Ring
set_option linter.unusedVariables false
set_option linter.unusedSimpArgs false
set_option maxRecDepth 10000
namespace Go.Am.Ring
open Go.Am.G
end Go.Am.Ring
set_option linter.unusedVariables false
set_option linter.unusedSimpArgs false
set_option maxRecDepth 10000
namespace Go.Am.Ring
open Go.Am.G
end Go.Am.Ring
set_option linter.unusedVariables false
set_option linter.unusedSimpArgs false
namespace Go.Am.Ring
def Chain (P : List (Nat × Nat)) : List Nat → Prop
  | [] => True
  | [_] => True
  | a :: b :: r => en P a = st P b ∧ Chain P (b :: r)
theorem chain_append {P : List (Nat × Nat)} : ∀ (a b : List Nat),Chain P (a ++ b) ↔ Chain P a ∧ Chain P b ∧ (a ≠ [] → b ≠ [] → en P (a.getLastD 0) = st P (b.headD 0))
  | [],b => by simp [Chain]
  | [x],[] => by simp [Chain]
  | [x],y :: b => by
    constructor
    · intro h; exact ⟨trivial,h.2,fun _ _ => h.1⟩
    · intro h; exact ⟨h.2.2 (by simp) (by simp),h.2.1⟩
  | x :: y :: a,b => by
    have ih := chain_append (P := P) (y :: a) b
    have e : Chain P (x :: y :: a ++ b) ↔ en P x = st P y ∧ Chain P (y :: a ++ b) := Iff.rfl
    have e2 : Chain P (x :: y :: a) ↔ en P x = st P y ∧ Chain P (y :: a) := Iff.rfl
    have e3 : (x :: y :: a).getLastD 0 = (y :: a).getLastD 0 := by simp [List.getLastD]
    rw [e,e2,ih,e3]
    constructor
    · rintro ⟨h1,h2,h3,h4⟩; exact ⟨⟨h1,h2⟩,h3,fun _ hb => h4 (by simp) hb⟩
    · rintro ⟨⟨h1,h2⟩,h3,h4⟩; exact ⟨h1,h2,h3,fun _ hb => h4 (by simp) hb⟩
structure Cyc (P : List (Nat × Nat)) (b : List Nat) : Prop where
  ne : b ≠ []
  lt : ∀ k ∈ b,k < P.length
  nd : (b.map (st P)).Nodup
  ch : Chain P b
  cl : en P (b.getLastD 0) = st P (b.headD 0)
theorem headD_app (b r : List Nat) (h : b ≠ []) : (b ++ r).headD 0 = b.headD 0 := by
  cases b with
  | nil => exact absurd rfl h
  | cons a t => rfl
theorem lastD_app (b r : List Nat) (h : r ≠ []) : (b ++ r).getLastD 0 = r.getLastD 0 := by
  rw [List.getLastD_eq_getLast?,List.getLastD_eq_getLast?,List.getLast?_append]
  cases hr : r.getLast? with
  | none => exact absurd (List.getLast?_eq_none_iff.1 hr) h
  | some x => rfl
theorem ringsU_mem {n : Nat} {P : List (Nat × Nat)} (G : Good n P) : ∀ (r b : List Nat) (u : Nat),Beg n P b → b.length + u = 7 → Cyc P (b ++ r) → (∀ k ∈ r,b.headD 0 < k) → b ++ r ∈ ringsU P u b
  | r,b,0,B,hu,_,_ => by have := B.len G; omega
  | [],b,u + 1,B,hu,C,_ => by
    rw [List.append_nil] at C ⊢
    rw [ringsU,if_pos C.cl]; simp
  | i :: r,b,u + 1,B,hu,C,hm => by
    have hch := (chain_append b (i :: r)).1 C.ch
    have hlast : en P (b.getLastD 0) = st P i := hch.2.2 B.ne (by simp)
    have hnd := C.nd
    rw [List.map_append,List.nodup_append] at hnd
    have hne : ∀ k ∈ b,st P k ≠ st P i := fun k hk => hnd.2.2 _ (List.mem_map.2 ⟨k,hk,rfl⟩) _ (List.mem_map.2 ⟨i,by simp,rfl⟩)
    have hil : i < P.length := C.lt i (by simp)
    have hnc : ¬ en P (b.getLastD 0) = st P (b.headD 0) := by
      intro c
      rw [hlast] at c
      refine hne (b.headD 0) ?_ c.symm
      cases hb : b with
      | nil => exact absurd hb B.ne
      | cons a t => simp
    have hfr : freshB P b i = true := by
      unfold freshB
      rw [List.all_eq_true]
      intro k hk
      simp [hne k hk]
    have hih := hm i (by simp)
    rw [ringsU,if_neg hnc,List.mem_flatMap]
    refine ⟨i,List.mem_range'_1.2 ⟨by omega,by omega⟩,?_⟩
    rw [if_pos ⟨hlast.symm,hfr⟩]
    have := ringsU_mem G r (b ++ [i]) u (B.snoc hil hfr) (by simp; omega) (by rw [List.append_assoc]; exact C) (fun k hk => by
      rw [headD_app b [i] B.ne]
      exact hm k (by simp [hk]))
    rw [List.append_assoc] at this
    exact this
theorem ringsU_cyc {n : Nat} {P : List (Nat × Nat)} (G : Good n P) : ∀ (u : Nat) (b : List Nat),Beg n P b → Chain P b → ∀ o ∈ ringsU P u b,Cyc P o ∧ ∃ r,o = b ++ r ∧ ∀ k ∈ r,b.headD 0 < k
  | 0,b,_,_,o,ho => by simp [ringsU] at ho
  | u + 1,b,B,hch,o,ho => by
    rw [ringsU] at ho
    split at ho
    · rename_i h
      simp at ho
      subst ho
      exact ⟨⟨B.ne,B.lt,B.nd,hch,h⟩,[],by simp,by simp⟩
    · rw [List.mem_flatMap] at ho
      obtain ⟨i,hi,ho⟩ := ho
      rw [List.mem_range'_1] at hi
      split at ho
      · rename_i h
        have hil : i < P.length := by omega
        have hch2 : Chain P (b ++ [i]) := (chain_append b [i]).2 ⟨hch,trivial,fun _ _ => h.1.symm⟩
        obtain ⟨h1,r,h2,h3⟩ := ringsU_cyc G u (b ++ [i]) (B.snoc hil h.2) hch2 o ho
        rw [headD_app b [i] B.ne] at h3
        refine ⟨h1,i :: r,by rw [h2]; simp,?_⟩
        intro k hk
        rcases List.mem_cons.1 hk with rfl | hk
        · omega
        · exact h3 k hk
      · simp at ho
theorem beg_one {n : Nat} {P : List (Nat × Nat)} {i : Nat} (hi : i < P.length) : Beg n P [i] := ⟨by simp,by simpa using hi,by simp⟩
theorem allR_mem {n : Nat} {P : List (Nat × Nat)} (G : Good n P) (o : List Nat) : o ∈ allR P ↔ Cyc P o ∧ ∀ k ∈ o.tail,o.headD 0 < k := by
  unfold allR
  rw [List.mem_flatMap]
  constructor
  · rintro ⟨i,hi,ho⟩
    obtain ⟨h1,r,rfl,h3⟩ := ringsU_cyc G 6 [i] (beg_one (List.mem_range.1 hi)) trivial o ho
    exact ⟨h1,h3⟩
  · rintro ⟨C,h⟩
    cases o with
    | nil => exact absurd rfl C.ne
    | cons i r =>
      have hi := C.lt i (by simp)
      exact ⟨i,List.mem_range.2 hi,ringsU_mem G r [i] 6 (beg_one hi) rfl C h⟩
theorem cyc_min {n : Nat} {P : List (Nat × Nat)} (G : Good n P) {c : List Nat} (C : Cyc P c) : ∃ o,o ∈ allR P := by
  obtain ⟨m,hm,hmin⟩ : ∃ m ∈ c,∀ k ∈ c,m ≤ k := by
    have : ∀ l : List Nat,l ≠ [] → ∃ m ∈ l,∀ k ∈ l,m ≤ k := by
      intro l
      induction l with
      | nil => intro h; exact absurd rfl h
      | cons a l ih =>
        intro _
        by_cases hl : l = []
        · subst hl; exact ⟨a,by simp,by simp⟩
        · obtain ⟨m,h1,h2⟩ := ih hl
          by_cases c : a ≤ m
          · exact ⟨a,by simp,fun k hk => by
              rcases List.mem_cons.1 hk with rfl | hk
              · omega
              · have := h2 k hk; omega⟩
          · exact ⟨m,by simp [h1],fun k hk => by
              rcases List.mem_cons.1 hk with rfl | hk
              · omega
              · exact h2 k hk⟩
    exact this c C.ne
  obtain ⟨l1,l2,rfl⟩ := List.append_of_mem hm
  have hch := (chain_append l1 (m :: l2)).1 C.ch
  have hcl := C.cl
  rw [lastD_app l1 (m :: l2) (by simp)] at hcl
  have hnd := C.nd
  have hperm : ((m :: l2 ++ l1).map (st P)).Perm ((l1 ++ m :: l2).map (st P)) := (List.perm_append_comm).map _
  refine ⟨m :: l2 ++ l1,(allR_mem G _).2 ⟨⟨by simp,?_,hperm.nodup_iff.2 hnd,?_,?_⟩,?_⟩⟩
  · intro k hk
    exact C.lt k ((List.perm_append_comm).mem_iff.1 hk)
  · refine (chain_append (m :: l2) l1).2 ⟨hch.2.1,hch.1,fun _ hl => ?_⟩
    rw [hcl,headD_app l1 _ hl]
  · by_cases hl : l1 = []
    · subst hl; simpa using hcl
    · rw [lastD_app _ _ hl]
      exact hch.2.2 hl (by simp)
  · intro k hk
    have hk' : k ∈ l2 ++ l1 := hk
    have h1 := hmin k (by
      rcases List.mem_append.1 hk' with h | h
      · simp [h]
      · simp [h])
    have h2 : k ≠ m := by
      intro e
      subst e
      have := hperm.nodup_iff.2 hnd
      rw [show k :: l2 ++ l1 = k :: (l2 ++ l1) from rfl,List.map_cons,List.nodup_cons] at this
      exact this.1 (List.mem_map.2 ⟨k,hk',rfl⟩)
    show m < k
    omega
end Go.Am.Ring
