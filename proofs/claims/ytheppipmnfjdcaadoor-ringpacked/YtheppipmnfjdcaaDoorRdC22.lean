import Derived.Test.YtheppipmnfjdcaaDoorRdC15
import Derived.Test.YtheppipmnfjdcaaDoorLm15
set_option linter.unusedVariables false
set_option linter.unusedSimpArgs false
set_option maxRecDepth 10000
namespace Go.Am.Ring
open Go.Am.G
theorem app_gv (m : LMem) (b : Nat) (l : List Int) (x : Int) (ex : Bool) (hl : l.length < 1000000) (h : l ≠ [] → m[b]? = some ⟨ints l,true⟩) :
    appendL m 1 8 (GV b l) (.lst false ex 1 1 [.int .i64 x]) = some (GV (if l = [] then m.length else b) (l ++ [x]),if l = [] then m ++ [⟨ints (l ++ [x]),true⟩] else m.set b ⟨ints (l ++ [x]),true⟩) := by
  by_cases hn : l = []
  · subst hn
    simp [appendL,contents,GV,newSl,LV.scalar,roomMost,nbeq,nble]
  · have h1 := h hn
    have h2 : contents m 1 (GV b l) = some (l.map (LV.int .i64),l.length) := by
      simp only [GV,if_neg hn,contents,h1]
      simp only [List.drop_zero,Nat.mul_one,List.length_map,Nat.zero_add,nble,nbeq,Nat.le_refl,decide_true,Bool.and_self,cond_true]
      rw [List.take_of_length_le (by simp)]
    have h3 : contents m 1 (.lst false ex 1 1 [.int .i64 x]) = some ([.int .i64 x],1) := rfl
    have h4 : (Nat.ble ((l.length + 1) * 8) roomMost && Nat.ble (l.length + 1) roomMost && [LV.int .i64 x].all LV.scalar) = true := by rw [room_of hl]; rfl
    have h5 : Nat.ble (l.length + 1) l.length = false := by rw [nble]; simp
    have h6 : Nat.blt l.length (l.length + 1) = true := by rw [nblt]; simp
    rw [if_neg hn,if_neg hn]
    unfold appendL
    simp only [h2,h3,h4]
    simp only [GV,if_neg hn,h1,h5,Nat.mul_one,h6]
    simp [nbeq]
def frmK (P : List (Nat × Nat)) (k x : Nat) : List Nat := (List.range k).filter fun i => decide (st P i = x)
abbrev frm (P : List (Nat × Nat)) (x : Nat) : List Nat := frmK P P.length x
theorem frmK_succ (P : List (Nat × Nat)) (k x : Nat) : frmK P (k + 1) x = if st P k = x then frmK P k x ++ [k] else frmK P k x := by
  unfold frmK
  rw [List.range_succ,List.filter_append]
  by_cases c : st P k = x
  · simp [c]
  · simp [c]
theorem frmK_len (P : List (Nat × Nat)) (k x : Nat) : (frmK P k x).length ≤ k := by
  have := List.length_filter_le (fun i => decide (st P i = x)) (List.range k)
  rw [List.length_range] at this
  exact this
theorem frmK_mem {P : List (Nat × Nat)} {k x i : Nat} : i ∈ frmK P k x ↔ i < k ∧ st P i = x := by
  simp [frmK]
def KE (P : List (Nat × Nat)) (k : Nat) (β : Nat → Nat) (keys : List Nat) : List (Nat × LV) := keys.map fun x => (x,GV (β x) (ci (frmK P k x)))
structure FJ (P : List (Nat × Nat)) (N k : Nat) (fv each : LV) (β : Nat → Nat) (keys : List Nat) (m : LMem) : Prop where
  f0 : m[N]? = some ⟨[fv],true⟩
  f1 : m[N + 1]? = some ⟨[each],true⟩
  f2 : m[N + 2]? = some ⟨[.ents (entM (KE P k β keys))],true⟩
  f3 : m[N + 3]? = some ⟨[.map (N + 2)],true⟩
  nd : keys.Nodup
  cov : ∀ x,x ∉ keys → frmK P k x = []
  blk : ∀ x ∈ keys,frmK P k x ≠ [] ∧ N + 4 ≤ β x ∧ m[β x]? = some ⟨ints (ci (frmK P k x)),true⟩
  inj : ∀ x ∈ keys,∀ y ∈ keys,β x = β y → x = y
theorem ci_nil {l : List Nat} : ci l = [] ↔ l = [] := by cases l <;> simp
theorem get_lt {m : LMem} {i : Nat} {b : LBlk} (h : m[i]? = some b) : i < m.length := (List.getElem?_eq_some_iff.1 h).1
theorem FJ.look {P : List (Nat × Nat)} {N k : Nat} {fv each : LV} {β : Nat → Nat} {keys : List Nat} {m : LMem} (J : FJ P N k fv each β keys m) (x : Nat) : ∃ b,lookL m false (.lst true true 0 0 []) (.map (N + 2)) (.int .i64 (x : Int)) = some (GV b (ci (frmK P k x))) ∧ (frmK P k x ≠ [] → x ∈ keys ∧ b = β x) := by
  by_cases hx : x ∈ keys
  · refine ⟨β x,?_,fun _ => ⟨hx,rfl⟩⟩
    obtain ⟨A,B,rfl⟩ := List.append_of_mem hx
    have hn : ∀ e ∈ KE P k β A,e.1 ≠ x := by
      intro e he
      simp only [KE,List.mem_map] at he
      obtain ⟨y,hy,rfl⟩ := he
      rintro rfl
      have := J.nd
      rw [List.nodup_append] at this
      exact this.2.2 _ hy _ (by simp) rfl
    have e : KE P k β (A ++ x :: B) = KE P k β A ++ (x,GV (β x) (ci (frmK P k x))) :: KE P k β B := by simp [KE]
    have := find_some x (GV (β x) (ci (frmK P k x))) (KE P k β B) (KE P k β A) 0 hn
    rw [← e] at this
    simp only [lookL,LV.isInt,cond_true,entsL,J.f2,this,cond_false]
  · refine ⟨0,?_,fun h => absurd (J.cov x hx) h⟩
    have hn : ∀ e ∈ KE P k β keys,e.1 ≠ x := by
      intro e he
      simp only [KE,List.mem_map] at he
      obtain ⟨y,hy,rfl⟩ := he
      rintro rfl; exact hx hy
    have := find_none x (KE P k β keys) 0 hn
    simp only [lookL,LV.isInt,cond_true,entsL,J.f2,this,cond_false,J.cov x hx]
    rfl
theorem GV_noRef {b i : Nat} {l : List Int} (h : l ≠ [] → b ≠ i) : LV.noRef i (GV b l) = true := by
  unfold GV
  split
  · rfl
  · rename_i c
    simp only [LV.noRef,nbeq,Bool.not_eq_true',decide_eq_false_iff_not]
    exact h c
theorem FJ.step {P : List (Nat × Nat)} {N k : Nat} {fv each : LV} {β : Nat → Nat} {keys : List Nat} {m : LMem} (J : FJ P N k fv each β keys m) (hk : k < 1000) (pr : LBlk) (hpr : ∀ i,LV.noRefs i pr.cells = true) (hC : Cl m) :
    ∃ v v' m2 m3 β' keys',lookL (m ++ [pr]) false (.lst true true 0 0 []) (.map (N + 2)) (.int .i64 (st P k : Int)) = some v ∧ appendL (m ++ [pr]) 1 8 v (.lst false true 1 1 [.int .i64 (k : Int)]) = some (v',m2) ∧ putML m2 (.map (N + 2)) (.int .i64 (st P k : Int)) v' = some m3 ∧
      FJ P N (k + 1) fv each β' keys' m3 ∧ Cl m3 ∧ m.length ≤ m3.length ∧ (∀ i,i < N → m3[i]? = m[i]?) ∧ m2[N + 3]? = some ⟨[.map (N + 2)],true⟩ ∧ m2[m.length]? = some pr ∧ (v = .lst true true 0 0 [] ∨ ∃ b n,v = .sl b 0 n n 1 1 n ∧ ¬ N + 3 = b ∧ ¬ m.length = b ∧ ¬ m.length + 1 ≤ b) := by
  have l3 := get_lt J.f3
  have up : ∀ {i : Nat} {b : LBlk},m[i]? = some b → (m ++ [pr])[i]? = some b := fun h => by rw [List.getElem?_append_left (get_lt h)]; exact h
  have J1 : FJ P N k fv each β keys (m ++ [pr]) := ⟨up J.f0,up J.f1,up J.f2,up J.f3,J.nd,J.cov,fun x hx => ⟨(J.blk x hx).1,(J.blk x hx).2.1,up (J.blk x hx).2.2⟩,J.inj⟩
  have hlast : (m ++ [pr])[m.length]? = some pr := by simp
  have C1 : Cl (m ++ [pr]) := (Exn.app [] hpr).cl hC
  obtain ⟨b,hlk,hb⟩ := J1.look (st P k)
  have hlen := frmK_len P k (st P k)
  have hcl : (ci (frmK P k (st P k))).length < 1000000 := by rw [ci_len]; omega
  have hsucc : ci (frmK P (k + 1) (st P k)) = ci (frmK P k (st P k)) ++ [(k : Int)] := by rw [frmK_succ,if_pos rfl]; simp
  have hne' : frmK P (k + 1) (st P k) ≠ [] := by rw [frmK_succ,if_pos rfl]; simp
  have hoth : ∀ y,y ≠ st P k → frmK P (k + 1) y = frmK P k y := fun y hy => by rw [frmK_succ,if_neg (fun e => hy e.symm)]
  by_cases c : frmK P k (st P k) = []
  · -- a form that is not met yet
    have hnk : st P k ∉ keys := fun h => (J.blk _ h).1 c
    have hap := app_gv (m ++ [pr]) b (ci (frmK P k (st P k))) (k : Int) true hcl (fun h => absurd (ci_nil.2 c) h)
    rw [if_pos (ci_nil.2 c),if_pos (ci_nil.2 c),← hsucc] at hap
    have hgv : GV b (ci (frmK P k (st P k))) = .lst true true 0 0 [] := by rw [c]; rfl
    have hL1 : (m ++ [pr]).length = m.length + 1 := by simp
    rw [hL1] at hap
    have hfn : findML (.int .i64 (st P k : Int)) (entM (KE P k β keys)) 0 = some none := find_none _ _ 0 (by
      intro e he
      simp only [KE,List.mem_map] at he
      obtain ⟨y,hy,rfl⟩ := he
      rintro rfl; exact hnk hy)
    let β' : Nat → Nat := fun y => if y = st P k then m.length + 1 else β y
    have hKE : entM (KE P k β keys) ++ [.int .i64 (st P k : Int),GV (m.length + 1) (ci (frmK P (k + 1) (st P k)))] = entM (KE P (k + 1) β' (keys ++ [st P k])) := by
      rw [entM_snoc]
      congr 1
      simp only [KE,List.map_append,List.map_cons,List.map_nil]
      congr 1
      · refine List.map_congr_left fun y hy => ?_
        have : y ≠ st P k := fun e => hnk (e ▸ hy)
        simp only [β',if_neg this,hoth y this]
      · simp [β']
    have up2 : ∀ {i : Nat} {b : LBlk},m[i]? = some b → (m ++ [pr] ++ [⟨ints (ci (frmK P (k + 1) (st P k))),true⟩])[i]? = some b := fun h => by rw [List.getElem?_append_left (get_lt (up h))]; exact up h
    have up3 : ∀ {i : Nat} {b c : LBlk},m[i]? = some b → ¬ N + 2 = i → ((m ++ [pr] ++ [(⟨ints (ci (frmK P (k + 1) (st P k))),true⟩ : LBlk)]).set (N + 2) c)[i]? = some b := fun h hn => by rw [List.getElem?_set_ne hn]; exact up2 h
    refine ⟨_,_,_,(m ++ [pr] ++ [(⟨ints (ci (frmK P (k + 1) (st P k))),true⟩ : LBlk)]).set (N + 2) ⟨[.ents (entM (KE P (k + 1) β' (keys ++ [st P k])))],true⟩,β',keys ++ [st P k],hlk,hap,?_,?_,?_,by simp,?_,up2 J.f3,?_,.inl hgv⟩
    · simp only [putML,LV.isInt,cond_true,up2 J.f2,hfn,hKE]
    · refine ⟨up3 J.f0 (by omega),up3 J.f1 (by omega),by rw [List.getElem?_set_self (by simp; omega)],up3 J.f3 (by omega),?_,?_,?_,?_⟩
      · rw [List.nodup_append]
        exact ⟨J.nd,by simp,fun a ha b hb e => by rw [List.mem_singleton.1 hb] at e; exact hnk (e ▸ ha)⟩
      · intro x hx
        have h1 : x ∉ keys := fun h => hx (by simp [h])
        have h2 : x ≠ st P k := fun h => hx (by simp [h])
        rw [hoth x h2]; exact J.cov x h1
      · intro x hx
        rcases List.mem_append.1 hx with h | h
        · have h2 : x ≠ st P k := fun e => hnk (e ▸ h)
          obtain ⟨b1,b2,b3⟩ := J.blk x h
          simp only [β',if_neg h2,hoth x h2]
          exact ⟨b1,b2,up3 b3 (by omega)⟩
        · rw [List.mem_singleton.1 h]
          simp only [β',if_true]
          refine ⟨hne',by omega,?_⟩
          rw [List.getElem?_set_ne (by omega)]
          simp
      · intro x hx y hy hxy
        have hlt : ∀ z ∈ keys,β z < m.length := fun z hz => get_lt (J.blk z hz).2.2
        rcases List.mem_append.1 hx with h | h <;> rcases List.mem_append.1 hy with h' | h'
        · have h2 : x ≠ st P k := fun e => hnk (e ▸ h)
          have h3 : y ≠ st P k := fun e => hnk (e ▸ h')
          simp only [β',if_neg h2,if_neg h3] at hxy
          exact J.inj x h y h' hxy
        · have h2 : x ≠ st P k := fun e => hnk (e ▸ h)
          rw [List.mem_singleton.1 h'] at hxy
          simp only [β',if_neg h2,if_true] at hxy
          have := hlt x h; omega
        · have h2 : y ≠ st P k := fun e => hnk (e ▸ h')
          rw [List.mem_singleton.1 h] at hxy
          simp only [β',if_neg h2,if_true] at hxy
          have := hlt y h'; omega
        · rw [List.mem_singleton.1 h,List.mem_singleton.1 h']
    · intro i hi
      simp at hi
      refine NR.set ((C1 i (by simp; omega)).app (noRefs_int i _ _)) ?_
      simp only [LV.noRefs,LV.noRef,Bool.and_true]
      rw [entM_noRefs]
      intro e he
      simp only [KE,List.mem_map] at he
      obtain ⟨y,hy,rfl⟩ := he
      refine GV_noRef fun _ => ?_
      rcases List.mem_append.1 hy with h | h
      · have h2 : y ≠ st P k := fun e => hnk (e ▸ h)
        have := get_lt (J.blk y h).2.2
        simp only [β',if_neg h2]; omega
      · rw [List.mem_singleton.1 h]
        simp only [β',if_true]; omega
    · intro i hi
      rw [List.getElem?_set_ne (by omega),List.append_assoc,List.getElem?_append_left (by omega)]
    · rw [List.getElem?_append_left (by simp)]; exact hlast
  · -- a form that is met
    obtain ⟨hx,rfl⟩ := hb c
    obtain ⟨c1,c2,c3⟩ := J.blk _ hx
    have hbl := get_lt c3
    have hcn : ci (frmK P k (st P k)) ≠ [] := fun h => c (ci_nil.1 h)
    have hap := app_gv (m ++ [pr]) (β (st P k)) (ci (frmK P k (st P k))) (k : Int) true hcl (fun _ => up c3)
    rw [if_neg hcn,if_neg hcn,← hsucc] at hap
    obtain ⟨A,B,hAB⟩ := List.append_of_mem hx
    have hnd := J.nd
    rw [hAB,List.nodup_append] at hnd
    have hnA : ∀ y ∈ A,y ≠ st P k := fun y hy e => hnd.2.2 y hy _ (by simp) e
    have hnB : ∀ y ∈ B,y ≠ st P k := fun y hy e => (List.nodup_cons.1 hnd.2.1).1 (e ▸ hy)
    have hn : ∀ e ∈ KE P k β A,e.1 ≠ st P k := by
      intro e he
      simp only [KE,List.mem_map] at he
      obtain ⟨y,hy,rfl⟩ := he
      exact hnA y hy
    have e : KE P k β keys = KE P k β A ++ (st P k,GV (β (st P k)) (ci (frmK P k (st P k)))) :: KE P k β B := by rw [hAB]; simp [KE]
    have e2 : KE P (k + 1) β keys = KE P k β A ++ (st P k,GV (β (st P k)) (ci (frmK P (k + 1) (st P k)))) :: KE P k β B := by
      rw [hAB]
      simp only [KE,List.map_append,List.map_cons]
      congr 1
      · exact List.map_congr_left fun y hy => by rw [hoth y (hnA y hy)]
      · congr 1
        exact List.map_congr_left fun y hy => by rw [hoth y (hnB y hy)]
    have hfs := find_some (st P k) (GV (β (st P k)) (ci (frmK P k (st P k)))) (KE P k β B) (KE P k β A) 0 hn
    rw [← e] at hfs
    have hset := entM_set (st P k) (GV (β (st P k)) (ci (frmK P k (st P k)))) (GV (β (st P k)) (ci (frmK P (k + 1) (st P k)))) (KE P k β B) (KE P k β A)
    rw [← e,← e2] at hset
    have up2 : ∀ {i : Nat} {b c : LBlk},m[i]? = some b → ¬ β (st P k) = i → ((m ++ [pr]).set (β (st P k)) c)[i]? = some b := fun h hn => by rw [List.getElem?_set_ne hn]; exact up h
    have up3 : ∀ {i : Nat} {b c d : LBlk},m[i]? = some b → ¬ β (st P k) = i → ¬ N + 2 = i → (((m ++ [pr]).set (β (st P k)) c).set (N + 2) d)[i]? = some b := fun h hn hn2 => by rw [List.getElem?_set_ne hn2]; exact up2 h hn
    refine ⟨_,_,_,((m ++ [pr]).set (β (st P k)) ⟨ints (ci (frmK P (k + 1) (st P k))),true⟩).set (N + 2) ⟨[.ents (entM (KE P (k + 1) β keys))],true⟩,β,keys,hlk,hap,?_,?_,?_,by simp,?_,up2 J.f3 (by omega),?_,.inr ⟨β (st P k),(ci (frmK P k (st P k))).length,by simp only [GV,if_neg hcn],by omega,by omega,by omega⟩⟩
    · simp only [putML,LV.isInt,cond_true,up2 J.f2 (show ¬ β (st P k) = N + 2 by omega),hfs,hset]
    · refine ⟨up3 J.f0 (by omega) (by omega),up3 J.f1 (by omega) (by omega),by rw [List.getElem?_set_self (by simp; omega)],up3 J.f3 (by omega) (by omega),J.nd,?_,?_,J.inj⟩
      · intro x hx'
        rw [hoth x (fun h => hx' (h ▸ hx))]; exact J.cov x hx'
      · intro x hx'
        by_cases hxe : x = st P k
        · subst hxe
          refine ⟨hne',c2,?_⟩
          rw [List.getElem?_set_ne (by omega),List.getElem?_set_self (by simp; omega)]
        · obtain ⟨d1,d2,d3⟩ := J.blk x hx'
          rw [hoth x hxe]
          exact ⟨d1,d2,up3 d3 (fun h => hxe (J.inj x hx' _ hx h.symm)) (by omega)⟩
    · intro i hi
      simp at hi
      refine NR.set (NR.set (C1 i (by simp; omega)) (noRefs_int i _ _)) ?_
      simp only [LV.noRefs,LV.noRef,Bool.and_true]
      rw [entM_noRefs]
      intro e he
      simp only [KE,List.mem_map] at he
      obtain ⟨y,hy,rfl⟩ := he
      have := get_lt (J.blk y hy).2.2
      exact GV_noRef fun _ => by omega
    · intro i hi
      rw [List.getElem?_set_ne (by omega),List.getElem?_set_ne (by omega),List.getElem?_append_left (by omega)]
    · rw [List.getElem?_set_ne (by omega)]; exact hlast
theorem FJ.trim {P : List (Nat × Nat)} {N k : Nat} {fv each : LV} {β : Nat → Nat} {keys : List Nat} {m : LMem} (J : FJ P N k fv each β keys m) (hC : Cl m) (l : Nat) (hl : N + 4 ≤ l) (hl2 : l ≤ m.length) (vs : List LV) : FJ P N k fv each β keys (trim l vs m) ∧ Cl (trim l vs m) ∧ N + 4 ≤ (trim l vs m).length ∧ ∀ i,i < N → (trim l vs m)[i]? = m[i]? := by
  rcases trim_or l vs m with e | ⟨e,hb⟩
  · rw [e]; exact ⟨J,hC,by omega,fun _ _ => rfl⟩
  · rw [e]
    have g : ∀ {i : Nat},i < l → (m.take l)[i]? = m[i]? := fun h => by rw [List.getElem?_take,if_pos h]
    have hll : (m.take l).length = l := by rw [List.length_take]; omega
    refine ⟨⟨by rw [g (by omega)]; exact J.f0,by rw [g (by omega)]; exact J.f1,by rw [g (by omega)]; exact J.f2,by rw [g (by omega)]; exact J.f3,J.nd,J.cov,fun x hx => ?_,J.inj⟩,fun i hi => belowM_cl hb i (by omega),by omega,fun i hi => g (by omega)⟩
    obtain ⟨d1,d2,d3⟩ := J.blk x hx
    refine ⟨d1,d2,?_⟩
    rw [g,d3]
    unfold belowM at hb
    rw [List.all_eq_true] at hb
    have := hb ⟨[.ents (entM (KE P k β keys))],true⟩ (by
      have h2 := J.f2
      rw [← g (show N + 2 < l by omega)] at h2
      exact List.mem_of_getElem? h2)
    simp only [LV.unders,LV.under,Bool.and_true] at this
    rw [entM_unders] at this
    have := this (x,GV (β x) (ci (frmK P k x))) (List.mem_map.2 ⟨x,hx,rfl⟩)
    have hcn : ci (frmK P k x) ≠ [] := fun h => d1 (ci_nil.1 h)
    simp only [GV,if_neg hcn,LV.under,nblt,decide_eq_true_eq] at this
    exact this
theorem set_last (m : LMem) (a b : LBlk) : (m ++ [a]).set m.length b = m ++ [b] := by simp
theorem get_last (m : LMem) (a : LBlk) : (m ++ [a])[m.length]? = some a := by simp
theorem from_loop (P : List (Nat × Nat)) (hP : P.length ≤ 12) (nl ex : Bool) (sz N : Nat) (each : LV) (j : Nat) : ∀ (k : Nat) (M : LMem) (β : Nat → Nat) (keys : List Nat),k + j = P.length → FJ P N k (FN nl ex sz P) each β keys M → Cl M → N + 4 ≤ M.length →
    ∃ M' β' keys',exF LP ring_rings.L0 [(2,.ptr N 0 1),(3,.ptr (N + 1) 0 1),(4,.ptr (N + 3) 0 1),(11,FN nl ex sz P),(12,.int .i64 (P.length : Int)),(13,.int .i64 (k : Int))] M = some (.exit 0,[(2,.ptr N 0 1),(3,.ptr (N + 1) 0 1),(4,.ptr (N + 3) 0 1)],M') ∧ FJ P N P.length (FN nl ex sz P) each β' keys' M' ∧ Cl M' ∧ N + 4 ≤ M'.length ∧ ∀ i,i < N → M'[i]? = M[i]? := by
  induction j with
  | zero =>
    intro k M β keys hk J hC hl
    obtain rfl : k = P.length := by omega
    refine ⟨M,β,keys,?_,J,hC,hl,fun _ _ => rfl⟩
    rw [ring_rings.L0_eq]
    simp only [ring_rings.B0,exF_seq,exF_region,exF_cond,exF_exit,runL,wantL,stepL,evL,LEnv.at,putL,loadFine,LEnv.keep,List.map_cons,List.map_nil,nbeq,bin_lss,Nat.reduceEqDiff,decide_true,decide_false,cond_true,cond_false,eq_self,show ¬ ((P.length : Int) < (P.length : Int)) by omega]
  | succ j ih =>
    intro k M β keys hk J hC hl
    have h2 : k < P.length := by omega
    have hkk : (k : Int) < (P.length : Int) := by omega
    have hw := wrap_succ (show k + 1 < 9223372036854775808 by omega)
    obtain ⟨v,v',m2,m3,β',keys',hlk,hap,hput,J',hC',hl',hkeep,g3,gl,hv⟩ := J.step (by omega) ⟨[.int .i64 ((st P k : Nat) : Int),.int .i64 ((en P k : Nat) : Int)],true⟩ (fun i => rfl) hC
    obtain ⟨T1,T2,T3,T4⟩ := J'.trim hC' M.length hl hl' (envVals [(2,.ptr N 0 1),(3,.ptr (N + 1) 0 1),(4,.ptr (N + 3) 0 1),(11,FN nl ex sz P),(12,.int .i64 (P.length : Int)),(13,.int .i64 ((k + 1 : Nat) : Int))])
    obtain ⟨M',β'',keys'',hex,J'',C'',l'',k''⟩ := ih (k + 1) _ β' keys' (by omega) T1 T2 T3
    refine ⟨M',β'',keys'',?_,J'',C'',l'',fun i hi => by rw [k'' i hi,T4 i hi,hkeep i hi]⟩
    have seg := pcSE P k h2
    have ok := pcN_ok P k h2
    have hM3 : N + 3 < M.length := by omega
    have f3' : ∀ b : LBlk,(M ++ [b])[N + 3]? = some ⟨[.map (N + 2)],true⟩ := fun b => by rw [List.getElem?_append_left (by omega)]; exact J.f3
    rw [ring_rings.L0_eq]
    simp only [FN_eq] at hex ⊢
    rcases hv with rfl | ⟨bv,nv,rfl,n1,n2,n3⟩
    · simp only [ring_rings.B0,exF_seq,exF_region,exF_block,exF_cond,exF_skip,runL,wantL,stepL,evL,evC,LEnv.at,putL,loadFine,loadL,cellsAt,Trk.putNew,Trk.up,Trk.touch,Trk.gives,Trk.calm,Trk.hit,opdsOf,Trk.fresh,LEnv.keep,List.map_cons,List.map_nil,nbeq,nble,nblt,ofAV,ofAVs,bin_add,bin_lss,natL_nat,natL_zero,List.any_cons,List.any_nil,Bool.or_false,Bool.or_true,Bool.and_true,Bool.false_and,Bool.not_true,Bool.not_false,Nat.reduceEqDiff,decide_true,decide_false,cond_true,cond_false,List.filter_nil,List.filter_cons,Nat.reduceAdd,Nat.reduceLeDiff,reduceCtorEq,List.length_nil,List.length_cons,Nat.mul_one,if_true,eq_self,List.append_nil,List.nil_append,views_pures,LV.pures,LV.pure,freeze,Nat.reduceDiv,LV.cells,allocL,List.getElem?_cons_zero,storeL,spliceL,List.take_zero,List.take_succ_cons,List.drop_zero,List.drop_succ_cons,List.drop_nil,List.take_nil,Nat.le_refl,LV.scalar,List.all_cons,List.all_nil,Nat.reduceLT,fillL,List.length_append,hkk,h2,seg,ok,set_last,get_last,show ¬ M.length + 1 ≤ N + 3 by omega,show ¬ M.length + 1 ≤ M.length by omega,f3',hlk,hap,g3,gl,hput,hw,hex]
    · simp only [ring_rings.B0,exF_seq,exF_region,exF_block,exF_cond,exF_skip,runL,wantL,stepL,evL,evC,LEnv.at,putL,loadFine,loadL,cellsAt,Trk.putNew,Trk.up,Trk.touch,Trk.gives,Trk.calm,Trk.hit,opdsOf,Trk.fresh,LEnv.keep,List.map_cons,List.map_nil,nbeq,nble,nblt,ofAV,ofAVs,bin_add,bin_lss,natL_nat,natL_zero,List.any_cons,List.any_nil,Bool.or_false,Bool.or_true,Bool.and_true,Bool.false_and,Bool.not_true,Bool.not_false,Nat.reduceEqDiff,decide_true,decide_false,cond_true,cond_false,List.filter_nil,List.filter_cons,Nat.reduceAdd,Nat.reduceLeDiff,reduceCtorEq,List.length_nil,List.length_cons,Nat.mul_one,if_true,eq_self,List.append_nil,List.nil_append,views_pures,LV.pures,LV.pure,freeze,Nat.reduceDiv,LV.cells,allocL,List.getElem?_cons_zero,storeL,spliceL,List.take_zero,List.take_succ_cons,List.drop_zero,List.drop_succ_cons,List.drop_nil,List.take_nil,Nat.le_refl,LV.scalar,List.all_cons,List.all_nil,Nat.reduceLT,fillL,List.length_append,hkk,h2,seg,ok,set_last,get_last,show ¬ M.length + 1 ≤ N + 3 by omega,show ¬ M.length + 1 ≤ M.length by omega,f3',hlk,hap,g3,gl,hput,hw,n1,n2,hex]
end Go.Am.Ring
set_option linter.unusedVariables false
set_option linter.unusedSimpArgs false
set_option maxRecDepth 10000
namespace Go.Am.Ring
open Go.Am.G
theorem flat_if {α β : Type} (p : α → Bool) (g : α → List β) : ∀ l : List α,(l.filter p).flatMap g = l.flatMap fun i => if p i = true then g i else []
  | [] => rfl
  | a :: r => by
    rw [List.filter_cons,List.flatMap_cons,← flat_if p g r]
    by_cases c : p a = true
    · rw [if_pos c,if_pos c,List.flatMap_cons]
    · rw [if_neg c,if_neg c,List.nil_append]
theorem flat_none {α β : Type} {g : α → List β} : ∀ {l : List α},(∀ x ∈ l,g x = []) → l.flatMap g = []
  | [],_ => rfl
  | a :: r,h => by rw [List.flatMap_cons,h a (by simp),flat_none fun x hx => h x (by simp [hx])]; rfl
theorem flat_cong {α β : Type} {g f : α → List β} : ∀ {l : List α},(∀ x ∈ l,g x = f x) → l.flatMap g = l.flatMap f
  | [],_ => rfl
  | a :: r,h => by rw [List.flatMap_cons,List.flatMap_cons,h a (by simp),flat_cong fun x hx => h x (by simp [hx])]
theorem range_from {β : Type} (h L : Nat) (g : Nat → List β) : (List.range' (h + 1) (L - (h + 1))).flatMap g = (List.range L).flatMap fun i => if h < i then g i else [] := by
  by_cases c : h + 1 ≤ L
  · have e : List.range L = List.range' 0 (h + 1) ++ List.range' (h + 1) (L - (h + 1)) := by
      have := List.range'_append_1 (s := 0) (m := h + 1) (n := L - (h + 1))
      rw [Nat.zero_add] at this
      rw [this,List.range_eq_range']; congr 1; omega
    rw [e,List.flatMap_append]
    rw [flat_none (l := List.range' 0 (h + 1)) (fun x hx => by
      have := List.mem_range'_1.1 hx
      rw [if_neg (by omega)]),List.nil_append]
    exact flat_cong fun x hx => by
      have := List.mem_range'_1.1 hx
      rw [if_pos (by omega)]
  · rw [show L - (h + 1) = 0 by omega]
    exact (flat_none fun x hx => by
      have := List.mem_range.1 hx
      rw [if_neg (by omega)]).symm
def metB (P : List (Nat × Nat)) (b : List Nat) : Nat := b.foldl (fun a k => a ||| 2 ^ st P k) 0
theorem metB_snoc (P : List (Nat × Nat)) (b : List Nat) (i : Nat) : metB P (b ++ [i]) = metB P b ||| 2 ^ st P i := by simp [metB]
theorem metB_bit (P : List (Nat × Nat)) (x : Nat) : ∀ (b : List Nat) (a : Nat),(b.foldl (fun a k => a ||| 2 ^ st P k) a).testBit x = (a.testBit x || b.any fun k => decide (st P k = x))
  | [],a => by simp
  | k :: b,a => by
    rw [List.foldl_cons,metB_bit P x b,Nat.testBit_or,Nat.testBit_two_pow,List.any_cons,Bool.or_assoc]
theorem metB_lt {P : List (Nat × Nat)} : ∀ (b : List Nat) (a : Nat),(∀ k ∈ b,st P k < 6) → a < 64 → b.foldl (fun a k => a ||| 2 ^ st P k) a < 64
  | [],a,_,h => h
  | k :: b,a,hb,h => by
    rw [List.foldl_cons]
    refine metB_lt b _ (fun y hy => hb y (by simp [hy])) ?_
    have : 2 ^ st P k < 2 ^ 6 := Nat.pow_lt_pow_right (by omega) (hb k (by simp))
    exact Nat.or_lt_two_pow (n := 6) h this
theorem fresh_met (P : List (Nat × Nat)) (b : List Nat) (i : Nat) : freshB P b i = !(metB P b).testBit (st P i) := by
  rw [metB,metB_bit]
  simp only [Nat.zero_testBit,Bool.false_or,freshB]
  induction b with
  | nil => rfl
  | cons k b ih => rw [List.all_cons,List.any_cons,ih,Bool.not_or]
theorem ringsU_step (P : List (Nat × Nat)) (u : Nat) (b : List Nat) (h : ¬ en P (b.getLastD 0) = st P (b.headD 0)) : ringsU P (u + 1) b = if (metB P b).testBit (en P (b.getLastD 0)) = true then [] else ((frm P (en P (b.getLastD 0))).filter fun i => decide (b.headD 0 < i)).flatMap fun i => ringsU P u (b ++ [i]) := by
  rw [ringsU,if_neg h,range_from]
  by_cases c : (metB P b).testBit (en P (b.getLastD 0)) = true
  · rw [if_pos c]
    refine flat_none fun i hi => ?_
    split
    · rw [if_neg]
      rintro ⟨e,f⟩
      rw [fresh_met,e,c] at f
      cases f
    · rfl
  · rw [if_neg c,flat_if,frm,frmK,flat_if]
    refine flat_cong fun i hi => ?_
    by_cases c1 : st P i = en P (b.getLastD 0)
    · have hf : freshB P b i = true := by rw [fresh_met,c1]; simpa using c
      simp [c1,hf]
    · have h1 : (if b.headD 0 < i then if st P i = en P (b.getLastD 0) ∧ freshB P b i = true then ringsU P u (b ++ [i]) else [] else []) = [] := by
        split
        · rw [if_neg (fun e => c1 e.1)]
        · rfl
      rw [h1,if_neg (by simpa using c1)]
structure RVis (σ : Type) (N : Nat) where
  I : σ → List Nat → LMem → Prop
  vis : σ → List Nat → σ
  f : Nat
  first : List LV
  cap : List LV
  size : σ → Nat
  hsz : ∀ s r,size (vis s r) ≤ size s + 1
  hI : ∀ s O m m',I s O m → (∀ i ∈ O,m'[i]? = m[i]?) → I s O m'
  hlt : ∀ s O m,I s O m → ∀ i ∈ O,i < m.length
  hT : ∀ s O m k,I s O m → N ≤ k → belowM k (m.take k) = true → ∀ i ∈ O,i < k
  hvis : ∀ s O m r,I s O m → r ≠ [] → r.length ≤ 6 → size s < 100000000 → N ≤ m.length → Cl m → ∃ m' O',clF LP f (first ++ ([.sl m.length 0 r.length r.length 1 1 r.length] ++ cap)) (m ++ [⟨ints (ci r),true⟩]) = some (.W,.bool true,m') ∧ I (vis s r) O' m' ∧ Exn m m' O ∧ ∀ i ∈ O',i ∈ O ∨ m.length ≤ i
theorem RVis.hszl {σ : Type} {N : Nat} (X : RVis σ N) : ∀ (l : List (List Nat)) (s : σ),X.size (l.foldl X.vis s) ≤ X.size s + l.length
  | [],s => by simp
  | a :: r,s => by
    have h1 := X.hsz s a
    have h2 := X.hszl r (X.vis s a)
    rw [List.foldl_cons,List.length_cons]; omega
theorem RVis.trim {σ : Type} {N : Nat} (X : RVis σ N) {s : σ} {O : List Nat} {m : LMem} (h : X.I s O m) (k : Nat) (hk : N ≤ k) (vs : List LV) : X.I s O (trim k vs m) := by
  rcases trim_or k vs m with e | ⟨e,hb⟩
  · rw [e]; exact h
  · rw [e]
    refine X.hI s O m _ h fun i hi => ?_
    rw [List.getElem?_take,if_pos (X.hT s O m k h hk hb i hi)]
structure WB {σ : Type} {N : Nat} (X : RVis σ N) (P : List (Nat × Nat)) (fv : LV) (w : Nat) (β : Nat → Nat) (keys : List Nat) (m : LMem) : Prop where
  J : FJ P N P.length fv (.func X.f X.first X.cap) β keys m
  hw : N + 3 < w
  fw : m[w]? = some ⟨[.func n_ring_rings_1 [] [.ptr N 0 1,.ptr (N + 1) 0 1,.ptr (N + 3) 0 1,.ptr w 0 1]],true⟩
  hb : ∀ x ∈ keys,β x < w
theorem WB.mono {σ : Type} {N : Nat} {X : RVis σ N} {P : List (Nat × Nat)} {fv : LV} {w : Nat} {β : Nat → Nat} {keys : List Nat} {m m' : LMem} (h : WB X P fv w β keys m) (e : ∀ i,N ≤ i → i ≤ w → m'[i]? = m[i]?) : WB X P fv w β keys m' := by
  have hw := h.hw
  refine ⟨⟨by rw [e _ (by omega) (by omega)]; exact h.J.f0,by rw [e _ (by omega) (by omega)]; exact h.J.f1,by rw [e _ (by omega) (by omega)]; exact h.J.f2,by rw [e _ (by omega) (by omega)]; exact h.J.f3,h.J.nd,h.J.cov,fun x hx => ?_,h.J.inj⟩,hw,by rw [e _ (by omega) (by omega)]; exact h.fw,h.hb⟩
  obtain ⟨d1,d2,d3⟩ := h.J.blk x hx
  have := h.hb x hx
  exact ⟨d1,d2,by rw [e _ (by omega) (by omega)]; exact d3⟩
def RVal (w : Nat) (O : List Nat) (m : LMem) (rv : LV) (b : List Nat) : Prop :=
  (rv = .lst false true 1 1 (ints (ci b)) ∧ b.length = 1) ∨ ∃ br,rv = .sl br 0 b.length b.length 1 1 b.length ∧ m[br]? = some ⟨ints (ci b),true⟩ ∧ w < br ∧ br ∉ O ∧ NR br m
theorem cloneI_m {args : List LV} {ids : List Nat} {m : LMem} (ex : Bool) (l : List Int) (hl : l.length < 1000) (hne : l ≠ []) (hv : views m args = some ([IL false ex 1 l],ids)) : clF LP n_slices_Clone_int_int args m = some (.O,.sl m.length 0 l.length l.length 1 1 l.length,m ++ [⟨ints l,true⟩]) := by
  have h0 : ¬ l.length = 0 := by simpa using hne
  have hr1 : l.length * 8 ≤ roomMost := by unfold roomMost; omega
  have hr2 : l.length ≤ roomMost := by unfold roomMost; omega
  rw [clF_eq,lp_slices_Clone_int_int]
  simp only [callMode,slices_Clone_int_int,hv]
  simp only [slices_Clone_int_int.B,exF_seq,exF_region,exF_cond,exF_ret,exF_skip,runL,wantL,stepL,evL,evC,LEnv.at,putL,loadFine,LEnv.keep,LEnv.ofFrom,List.map_cons,List.map_nil,nbeq,nble,ofAVs,Nat.zero_mul,Bool.or_false,Bool.or_true,Bool.and_true,Nat.reduceEqDiff,decide_true,decide_false,cond_true,cond_false,reduceCtorEq,List.length_nil,Nat.mul_one,eq_self,retL,resultsL,resAllL,resOfL,List.nil_append,freeze,Nat.reduceDiv,List.take_nil,List.all_cons,List.all_nil,fillL,solids_int,scalars_int,nilOf,eqsL,Bool.xor_false,LV.shift,newOnly,LV.solid,freeze,appendL,contents,views,viewL,h0,hr1,hr2,newSl,Nat.zero_add,shifts_int]
def WalkOk {σ : Type} {N : Nat} (X : RVis σ N) (P : List (Nat × Nat)) (fv : LV) (w : Nat) (β : Nat → Nat) (keys : List Nat) (u : Nat) (b : List Nat) : Prop :=
  ∀ (s : σ) (O : List Nat) (m : LMem) (rv : LV),WB X P fv w β keys m → X.I s O m → Cl m → (∀ i ∈ O,i < N ∨ w < i) → RVal w O m rv b → X.size s + (ringsU P u b).length ≤ 100000000 →
    ∃ m' O',clF LP n_ring_rings_1 [rv,.int .i64 ((metB P b : Nat) : Int),.ptr N 0 1,.ptr (N + 1) 0 1,.ptr (N + 3) 0 1,.ptr w 0 1] m = some (.W,.bool true,m') ∧ X.I ((ringsU P u b).foldl X.vis s) O' m' ∧ Exn m m' O ∧ ∀ i ∈ O',i ∈ O ∨ m.length ≤ i
theorem walk_lent {σ : Type} {N : Nat} (X : RVis σ N) {P : List (Nat × Nat)} {fv : LV} {w : Nat} {β : Nat → Nat} {keys : List Nat} {u : Nat} {b : List Nat} {i : Nat} (hb : b ≠ []) (hb6 : b.length ≤ 6) (hr : WalkOk X P fv w β keys u (b ++ [i]))
    {s : σ} {O : List Nat} {m : LMem} {rv : LV} (hW : WB X P fv w β keys m) (hI : X.I s O m) (hC : Cl m) (hO : ∀ i ∈ O,i < N ∨ w < i) (hV : RVal w O m rv b) (hs : X.size s + (ringsU P u (b ++ [i])).length ≤ 100000000) :
    ∃ m' O',awayL m rv (.lst false true 1 1 [.int .i64 (i : Int)]) = true ∧ (∃ q,appendL m 1 8 rv (.lst false true 1 1 [.int .i64 (i : Int)]) = some q) ∧
      branchL (clF LP) n_ring_rings_1 [] [.ptr N 0 1,.ptr (N + 1) 0 1,.ptr (N + 3) 0 1,.ptr w 0 1] [.away 1 8 rv (.lst false true 1 1 [.int .i64 (i : Int)]),.int .i64 ((metB P (b ++ [i]) : Nat) : Int)] m = some (.bool true,m') ∧
      X.I ((ringsU P u (b ++ [i])).foldl X.vis s) O' m' ∧ Exn m m' O ∧ (∀ i ∈ O',i ∈ O ∨ m.length ≤ i) ∧ RVal w O' m' rv b := by
  have hw := get_lt hW.fw
  have hcb : ci b ≠ [] := fun h => hb (ci_nil.1 h)
  have hpos : 0 < b.length := List.length_pos_iff.2 hb
  have e1 : ci (b ++ [i]) = ci b ++ [(i : Int)] := by simp
  have hcl := ci_len b
  rcases hV with ⟨rfl,h1⟩ | ⟨br,rfl,hbr,hwb,hbO,hN⟩
  · -- the first find: a block is made
    have hap : appendL m 1 8 (.lst false true 1 1 (ints (ci b))) (.lst false true 1 1 [.int .i64 (i : Int)]) = some (.sl m.length 0 2 2 1 1 2,m ++ [⟨ints (ci (b ++ [i])),true⟩]) := by
      rw [e1]
      simp [appendL,contents,newSl,LV.scalar,roomMost,nbeq,nble]
    have haw : awayL m (.lst false true 1 1 (ints (ci b))) (.lst false true 1 1 [.int .i64 (i : Int)]) = true := by
      simp [awayL,lenL,nbeq,nblt]
    have hE1 : Exn m (m ++ [(⟨ints (ci (b ++ [i])),true⟩ : LBlk)]) O := Exn.app O fun j => noRefs_int j _ _
    have hm1 : (m ++ [(⟨ints (ci (b ++ [i])),true⟩ : LBlk)]).length = m.length + 1 := by simp
    have hI1 : X.I s O (m ++ [(⟨ints (ci (b ++ [i])),true⟩ : LBlk)]) := X.hI s O m _ hI fun j hj => by rw [List.getElem?_append_left (X.hlt s O m hI j hj)]
    have hV1 : RVal w O (m ++ [⟨ints (ci (b ++ [i])),true⟩]) (.sl m.length 0 2 2 1 1 2) (b ++ [i]) := by
      refine .inr ⟨m.length,by simp [h1],get_last m _,hw,fun h => ?_,?_⟩
      · have := X.hlt s O m hI _ h; omega
      · exact (hC m.length (Nat.le_refl _)).app (noRefs_int _ _ _)
    obtain ⟨m',O',hc,hI',hE,hO'⟩ := hr s O _ _ (hW.mono fun j _ hj => by rw [List.getElem?_append_left (by omega)]) hI1 (hE1.cl hC) hO hV1 hs
    refine ⟨m',O',haw,⟨_,hap⟩,?_,hI',hE1.trans hE (fun j hj => .inl hj),fun j hj => ?_,.inl ⟨rfl,h1⟩⟩
    · simp only [branchL,haw,cond_true,hap,List.nil_append,List.cons_append,hc,giveBackL,LV.plain]
    · rcases hO' j hj with h | h
      · exact .inl h
      · exact .inr (by omega)
  · have hap : appendL m 1 8 (.sl br 0 b.length b.length 1 1 b.length) (.lst false true 1 1 [.int .i64 (i : Int)]) = some (.sl br 0 (b.length + 1) (b.length + 1) 1 1 (b.length + 1),m.set br ⟨ints (ci (b ++ [i])),true⟩) := by
      have := app_gv m br (ci b) (i : Int) true (by rw [hcl]; omega) (fun _ => hbr)
      rw [if_neg hcb,if_neg hcb,← e1] at this
      simp only [GV,if_neg hcb,ci_len] at this
      rw [this,e1]
      simp [GV]
    have hbl := get_lt hbr
    have haw : awayL m (.sl br 0 b.length b.length 1 1 b.length) (.lst false true 1 1 [.int .i64 (i : Int)]) = true := by
      simp only [awayL,lenL,hbr,nbeq,nblt,List.length_map,Nat.mul_one]
      simp [hpos]
    have hE1 : Exn m (m.set br ⟨ints (ci (b ++ [i])),true⟩) (br :: O) := Exn.set _ (by simp) fun j => noRefs_int j _ _
    have hI1 : X.I s O (m.set br ⟨ints (ci (b ++ [i])),true⟩) := X.hI s O m _ hI fun j hj => by
      have : ¬ br = j := fun e => hbO (e ▸ hj)
      rw [List.getElem?_set_ne this]
    have hV1 : RVal w O (m.set br ⟨ints (ci (b ++ [i])),true⟩) (.sl br 0 (b.length + 1) (b.length + 1) 1 1 (b.length + 1)) (b ++ [i]) := by
      refine .inr ⟨br,by simp,by rw [List.getElem?_set_self hbl],hwb,hbO,hN.set (noRefs_int _ _ _)⟩
    obtain ⟨m',O',hc,hI',hE,hO'⟩ := hr s O _ _ (hW.mono fun j _ hj => by rw [List.getElem?_set_ne (by omega)]) hI1 (hE1.cl hC) hO hV1 hs
    have hbl1 : br < (m.set br ⟨ints (ci (b ++ [i])),true⟩).length := by simpa using hbl
    have hN1 : NR br m' := hE.nr br hbl1 (hN.set (noRefs_int _ _ _))
    have hbr' : m'[br]? = some ⟨ints (ci (b ++ [i])),true⟩ := by rw [hE.keep br hbl1 hbO,List.getElem?_set_self hbl]
    have hO2 : ∀ j ∈ O',j ∈ O ∨ m.length ≤ j := fun j hj => by
      rcases hO' j hj with h | h
      · exact .inl h
      · exact .inr (by simpa using h)
    have hbO' : br ∉ O' := fun h => by
      rcases hO2 br h with h | h
      · exact hbO h
      · omega
    refine ⟨m'.set br ⟨ints (ci b),true⟩,O',haw,⟨_,hap⟩,?_,?_,?_,hO2,.inr ⟨br,rfl,?_,hwb,hbO',hN1.set (noRefs_int _ _ _)⟩⟩
    · have hgb : giveBackL m (m.set br ⟨ints (ci (b ++ [i])),true⟩) m' (.sl br 0 b.length b.length 1 1 b.length) = some (m'.set br ⟨ints (ci b),true⟩) := by
        have hall : (m'.all fun b => LV.noRefs br b.cells) = true := all_NR hN1
        have hgg : (m.set br ⟨ints (ci (b ++ [i])),true⟩)[br]? = some ⟨ints (ci (b ++ [i])),true⟩ := List.getElem?_set_self hbl
        simp only [giveBackL,hbr,hgg,hbr',sameInts_same,hall,Bool.and_self,cond_true]
      simp only [branchL,haw,cond_true,hap,List.nil_append,List.cons_append,hc,hgb,LV.plain]
    · exact X.hI _ _ _ _ hI' fun j hj => by
        have : ¬ br = j := fun e => hbO' (by rw [e]; exact hj)
        rw [List.getElem?_set_ne this]
    · refine Exn.back ?_ hbr (fun j => noRefs_int j _ _)
      refine hE1.trans (hE.mono (O' := br :: O) fun j hj => by simp [hj]) fun j hj => .inl hj
    · rw [List.getElem?_set_self (by have := hE.len; omega)]
end Go.Am.Ring
set_option linter.unusedVariables false
set_option linter.unusedSimpArgs false
set_option maxRecDepth 10000
namespace Go.Am.Ring
open Go.Am.G
theorem lenL_lst (nl ex : Bool) (sz n : Nat) (cs : List LV) : lenL (.lst nl ex sz n cs) = some n := rfl
theorem lenL_sl (i o n cap g sz L : Nat) : lenL (.sl i o n cap g sz L) = some n := rfl
theorem walk_loop {σ : Type} {N : Nat} (X : RVis σ N) {n : Nat} {P : List (Nat × Nat)} (G : Good n P) {fv : LV} {w : Nat} {β : Nat → Nat} {keys : List Nat} {u : Nat} {b : List Nat} (hb : b ≠ []) (hb6 : b.length ≤ 6) (hbl : ∀ k ∈ b,k < P.length) (y : Nat) (hy : y < 6) (bf : Nat) (hbf : frm P y ≠ [] → N ≤ bf ∧ bf ≤ w)
    (hr : ∀ i ∈ frm P y,b.headD 0 < i → WalkOk X P fv w β keys u (b ++ [i])) (j : Nat) : ∀ (k : Nat) (s : σ) (O : List Nat) (m : LMem) (rv : LV),k + j = (frm P y).length → WB X P fv w β keys m → (frm P y ≠ [] → m[bf]? = some ⟨ints (ci (frm P y)),true⟩) → X.I s O m → Cl m → (∀ i ∈ O,i < N ∨ w < i) → RVal w O m rv b →
      X.size s + ((((frm P y).drop k).filter fun i => decide (b.headD 0 < i)).flatMap fun i => ringsU P u (b ++ [i])).length ≤ 100000000 →
    ∃ m' O',exF LP ring_rings_1.L0 [(0,rv),(1,.int .i64 ((metB P b : Nat) : Int)),(5,.ptr w 0 1),(9,.int .i64 (y : Int)),(42,GV bf (ci (frm P y))),(43,.int .i64 (((frm P y).length : Nat) : Int)),(44,.int .i64 (k : Int))] m = some (.exit 0,[],m') ∧
      X.I (((((frm P y).drop k).filter fun i => decide (b.headD 0 < i)).flatMap fun i => ringsU P u (b ++ [i])).foldl X.vis s) O' m' ∧ Exn m m' O ∧ ∀ i ∈ O',i ∈ O ∨ m.length ≤ i := by
  have h12 := G.le12
  have hfl : (frm P y).length ≤ P.length := frmK_len P P.length y
  induction j with
  | zero =>
    intro k s O m rv hk _ _ hI _ _ _ _
    refine ⟨m,O,?_,by rw [List.drop_eq_nil_of_le (by omega)]; exact hI,Exn.rfl' m O,fun i hi => .inl hi⟩
    rw [ring_rings_1.L0_eq]
    simp only [ring_rings_1.B0,exF_seq,exF_region,exF_cond,exF_exit,runL,wantL,stepL,evL,LEnv.at,putL,loadFine,LEnv.keep,List.map_cons,List.map_nil,nbeq,bin_lss,Nat.reduceEqDiff,decide_true,decide_false,cond_true,cond_false,reduceCtorEq,eq_self,show ¬ ((k : Int) < (((frm P y).length : Nat) : Int)) by omega]
  | succ j ih =>
    intro k s O m rv hk hW hf hI hC hO hV hs
    have h2 : k < (frm P y).length := by omega
    have hkk : (k : Int) < (((frm P y).length : Nat) : Int) := by omega
    have hne : frm P y ≠ [] := fun e => by rw [e] at h2; simp at h2
    have hcn : ci (frm P y) ≠ [] := fun h => hne (ci_nil.1 h)
    have hwk := wrap_succ (show k + 1 < 9223372036854775808 by omega)
    have hf1 := hf hne
    have hbf1 := hbf hne
    have hwl := get_lt hW.fw
    have hbfl : ¬ m.length ≤ bf := by omega
    have hwn : ¬ m.length ≤ w := by omega
    have hcl := ci_len (frm P y)
    have hpos : 0 < b.length := List.length_pos_iff.2 hb
    have hmem : (frm P y)[k] ∈ frm P y := List.getElem_mem h2
    have hmm := frmK_mem.1 hmem
    have hat : (ints (ci (frm P y)))[k]? = some (.int .i64 (((frm P y)[k] : Nat) : Int)) := by
      rw [List.getElem?_map,List.getElem?_map,List.getElem?_eq_getElem h2]; rfl
    have b0 : (ints (ci b))[0]? = some (.int .i64 ((b.headD 0 : Nat) : Int)) := by
      rw [List.getElem?_map,List.getElem?_map,List.getElem?_eq_getElem hpos,head_at b hpos]; rfl
    have hlen2 : (ints (ci (frm P y))).length = (frm P y).length := by simp
    have hlenb : (ints (ci b)).length = b.length := by simp
    have hfw := hW.fw
    rw [List.drop_eq_getElem_cons h2,List.filter_cons] at hs ⊢
    generalize hi : (frm P y)[k] = i at *
    have hGV : GV bf (ci (frm P y)) = .sl bf 0 (frm P y).length (frm P y).length 1 1 (frm P y).length := by simp only [GV,if_neg hcn,hcl]
    rw [hGV] at ih ⊢
    have hshl := sshl (show y < 32 by omega)
    have hml : metB P b < 64 := metB_lt b 0 (fun k hk => by have := (st_lt G (hbl k hk)).1; have := G.le6; omega) (by omega)
    have hpw : 2 ^ y < 2 ^ 6 := Nat.pow_lt_pow_right (by omega) hy
    have hor := sor (show metB P b < 4294967296 by omega) (show 2 ^ y < 4294967296 by omega)
    have hme : metB P b ||| 2 ^ y = metB P (b ++ [i]) := by rw [metB_snoc,hmm.2]
    rw [hme] at hor
    generalize ints (ci (frm P y)) = FC at *
    by_cases c : b.headD 0 < i
    · rw [if_pos (by simpa using c),List.flatMap_cons] at hs ⊢
      rw [List.length_append] at hs
      have c' : ((b.headD 0 : Nat) : Int) < (i : Int) := by omega
      obtain ⟨m1,O1,haw,⟨q,hap⟩,hbr,hI1,hE1,hO1,hV1⟩ := walk_lent X hb hb6 (hr i hmem c) hW hI hC hO hV (by omega)
      have hszl := X.hszl (ringsU P u (b ++ [i])) s
      have hbt : ∀ i ∈ O1,i < N ∨ w < i := fun i hi => by
        rcases hO1 i hi with h | h
        · exact hO i h
        · exact .inr (by omega)
      have hkeep : ∀ i,N ≤ i → i ≤ w → m1[i]? = m[i]? := fun i h1 h2 => hE1.keep i (by omega) fun h => by
        rcases hO i h with h | h <;> omega
      obtain ⟨m',O',hex,hI',hE',hO'⟩ := ih (k + 1) _ O1 m1 rv (by omega) (hW.mono hkeep) (fun h => by rw [hkeep bf hbf1.1 hbf1.2]; exact hf1) hI1 (hE1.cl hC) hbt hV1 (by omega)
      refine ⟨m',O',?_,by rw [List.foldl_append]; exact hI',hE1.trans hE' hO1,fun i hi => ?_⟩
      · rw [ring_rings_1.L0_eq]
        rcases hV with ⟨rfl,h1⟩ | ⟨br,rfl,hbr',hwb,hbO,hN⟩
        · simp only [ring_rings_1.B0,beqT,exF_seq,exF_region,exF_block,exF_cond,exF_skip,runL,wantL,stepL,evL,evC,LEnv.at,putL,loadFine,loadL,cellsAt,Trk.putNew,Trk.up,Trk.touch,Trk.gives,Trk.calm,Trk.hit,opdsOf,Trk.fresh,LEnv.keep,List.map_cons,List.map_nil,nbeq,nble,nblt,ofAV,ofAVs,bin_add,bin_lss,bin_gtr,natL_nat,natL_zero,List.any_cons,List.any_nil,Bool.or_false,Bool.or_true,Bool.and_true,Bool.false_and,Bool.not_true,Bool.not_false,Nat.reduceEqDiff,decide_true,decide_false,cond_true,cond_false,List.filter_nil,List.filter_cons,Nat.reduceAdd,Nat.reduceLeDiff,reduceCtorEq,List.length_nil,List.length_cons,Nat.mul_one,if_true,eq_self,List.append_nil,List.nil_append,unL,views_pures,LV.pures,LV.pure,freeze,Nat.reduceDiv,LV.cells,List.getElem?_cons_zero,spliceL,List.take_zero,List.take_succ_cons,List.drop_zero,List.drop_succ_cons,List.drop_nil,List.take_nil,Nat.le_refl,Nat.lt_add_one,fillL,hkk,h2,hbfl,hf1,hlen2,hat,Nat.zero_add,b0,c',haw,hap,hwn,hfw,hshl,hor,hbr,hwk,hex]
        · have hbrl := get_lt hbr'
          simp only [ring_rings_1.B0,beqT,exF_seq,exF_region,exF_block,exF_cond,exF_skip,runL,wantL,stepL,evL,evC,LEnv.at,putL,loadFine,loadL,cellsAt,Trk.putNew,Trk.up,Trk.touch,Trk.gives,Trk.calm,Trk.hit,opdsOf,Trk.fresh,LEnv.keep,List.map_cons,List.map_nil,nbeq,nble,nblt,ofAV,ofAVs,bin_add,bin_lss,bin_gtr,natL_nat,natL_zero,List.any_cons,List.any_nil,Bool.or_false,Bool.or_true,Bool.and_true,Bool.false_and,Bool.not_true,Bool.not_false,Nat.reduceEqDiff,decide_true,decide_false,cond_true,cond_false,List.filter_nil,List.filter_cons,Nat.reduceAdd,Nat.reduceLeDiff,reduceCtorEq,List.length_nil,List.length_cons,Nat.mul_one,if_true,eq_self,List.append_nil,List.nil_append,unL,views_pures,LV.pures,LV.pure,freeze,Nat.reduceDiv,LV.cells,List.getElem?_cons_zero,spliceL,List.take_zero,List.take_succ_cons,List.drop_zero,List.drop_succ_cons,List.drop_nil,List.take_nil,Nat.le_refl,fillL,hkk,h2,hbfl,hf1,hlen2,hat,Nat.zero_add,b0,c',haw,hap,hwn,hfw,hshl,hor,hbr,hwk,hex,hpos,hbr',hlenb,show ¬ m.length ≤ br by omega]
      · rcases hO' i hi with h | h
        · exact hO1 i h
        · exact .inr (by have := hE1.len; omega)
    · rw [if_neg (by simpa using c)] at hs ⊢
      have c' : ¬ ((b.headD 0 : Nat) : Int) < (i : Int) := by omega
      obtain ⟨m',O',hex,hI',hE',hO'⟩ := ih (k + 1) s O m rv (by omega) hW hf hI hC hO hV hs
      refine ⟨m',O',?_,hI',hE',hO'⟩
      rw [ring_rings_1.L0_eq]
      rcases hV with ⟨rfl,h1⟩ | ⟨br,rfl,hbr',hwb,hbO,hN⟩
      · simp only [ring_rings_1.B0,beqT,exF_seq,exF_region,exF_block,exF_cond,exF_skip,runL,wantL,stepL,evL,evC,LEnv.at,putL,loadFine,loadL,cellsAt,Trk.putNew,Trk.up,Trk.touch,Trk.gives,Trk.calm,Trk.hit,opdsOf,Trk.fresh,LEnv.keep,List.map_cons,List.map_nil,nbeq,nble,nblt,bin_add,bin_lss,bin_gtr,natL_nat,natL_zero,List.any_cons,List.any_nil,Bool.or_false,Bool.or_true,Bool.and_true,Bool.false_and,Bool.not_true,Bool.not_false,Nat.reduceEqDiff,decide_true,decide_false,cond_true,cond_false,List.filter_nil,Nat.reduceAdd,Nat.reduceLeDiff,reduceCtorEq,Nat.mul_one,eq_self,List.drop_zero,Nat.le_refl,Nat.lt_add_one,hkk,h2,hbfl,hf1,hlen2,hat,Nat.zero_add,b0,c',hwk,hex]
      · have hbrl := get_lt hbr'
        simp only [ring_rings_1.B0,beqT,exF_seq,exF_region,exF_block,exF_cond,exF_skip,runL,wantL,stepL,evL,evC,LEnv.at,putL,loadFine,loadL,cellsAt,Trk.putNew,Trk.up,Trk.touch,Trk.gives,Trk.calm,Trk.hit,opdsOf,Trk.fresh,LEnv.keep,List.map_cons,List.map_nil,nbeq,nble,nblt,bin_add,bin_lss,bin_gtr,natL_nat,natL_zero,List.any_cons,List.any_nil,Bool.or_false,Bool.or_true,Bool.and_true,Bool.false_and,Bool.not_true,Bool.not_false,Nat.reduceEqDiff,decide_true,decide_false,cond_true,cond_false,List.filter_nil,Nat.reduceAdd,Nat.reduceLeDiff,reduceCtorEq,Nat.mul_one,eq_self,List.drop_zero,Nat.le_refl,hkk,h2,hbfl,hf1,hlen2,hat,Nat.zero_add,b0,c',hwk,hex,hpos,hbr',hlenb,show ¬ m.length ≤ br by omega]
theorem walk_c {σ : Type} {N : Nat} (X : RVis σ N) {n : Nat} {P : List (Nat × Nat)} (G : Good n P) {nl ex : Bool} {sz w : Nat} {β : Nat → Nat} {keys : List Nat} : ∀ (u : Nat) (b : List Nat),Beg n P b → b.length + u = 7 → WalkOk X P (FN nl ex sz P) w β keys u b
  | 0,b,B,hu => by have := B.len G; omega
  | u + 1,b,B,hu => by
    intro s O m rv hW hI hC hO hV hs
    have hb := B.ne
    have hb6 := B.len G
    have h6 := G.le6
    have hpos : 0 < b.length := List.length_pos_iff.2 hb
    have hcb : ci b ≠ [] := fun h => hb (ci_nil.1 h)
    have hhd : b.headD 0 < P.length := B.lt _ (by rw [← head_at b hpos]; exact List.getElem_mem _)
    have hld : b.getLastD 0 < P.length := B.lt _ (by rw [← last_el b (by omega)]; exact List.getElem_mem _)
    have b0 : (ints (ci b))[0]? = some (.int .i64 ((b.headD 0 : Nat) : Int)) := by
      rw [List.getElem?_map,List.getElem?_map,List.getElem?_eq_getElem hpos,head_at b hpos]; rfl
    have hlt : b.length - 1 < b.length := by omega
    have bl : (ints (ci b))[b.length - 1]? = some (.int .i64 ((b.getLastD 0 : Nat) : Int)) := by
      rw [List.getElem?_map,List.getElem?_map,List.getElem?_eq_getElem hlt,last_el b hlt]; rfl
    have s0 := pcS P _ hhd
    have sl := pcE P _ hld
    have hw1 : IntKind.i64.wrap (((b.length : Nat) : Int) - 1) = ((b.length - 1 : Nat) : Int) := by rw [wrap_in (by omega)]; omega
    have hw11 : IntKind.i64.wrap (((1 : Nat) : Int) - 1) = 0 := by decide
    have hlenb : (ints (ci b)).length = b.length := by simp
    have hcl := ci_len b
    have hwl := get_lt hW.fw
    have hw3 := hW.hw
    have n0 : ¬ m.length ≤ N := by omega
    have n1 : ¬ m.length ≤ N + 1 := by omega
    have n3 : ¬ m.length ≤ N + 3 := by omega
    have f0 := hW.J.f0
    have f1 := hW.J.f1
    have f3 := hW.J.f3
    have hen := (st_lt G hld).2.1
    have hml : metB P b < 64 := metB_lt b 0 (fun k hk => by have := (st_lt G (B.lt k hk)).1; omega) (by omega)
    have hshr := sshr (a := metB P b) (show en P (b.getLastD 0) < 64 by omega)
    have hdv : metB P b / 2 ^ en P (b.getLastD 0) < 4294967296 := Nat.lt_of_le_of_lt (Nat.div_le_self _ _) (by omega)
    have hand := sand1 hdv
    have hbit := bit_dec (metB P b) (en P (b.getLastD 0))
    simp only [FN_eq] at f0
    by_cases hc : en P (b.getLastD 0) = st P (b.headD 0)
    · -- a ring
      have hc' : ((en P (b.getLastD 0) : Nat) : Int) = ((st P (b.headD 0) : Nat) : Int) := by omega
      have hU : ringsU P (u + 1) b = [b] := by rw [ringsU,if_pos hc]
      rw [hU] at hs ⊢
      rcases hV with ⟨rfl,h1⟩ | ⟨br,rfl,hbr,hwb,hbO,hN⟩
      · exfalso
        match b,h1 with
        | [k],_ => exact (st_lt G (B.lt k (by simp))).2.2 hc.symm
      · have hbrl := get_lt hbr
        have hnr : ¬ m.length ≤ br := by omega
        have hv := views_one 92 m (.sl br 0 b.length b.length 1 1 b.length) (IL false false 1 (ci b)) [br] (fun k => by
          have := view_sl k m br 0 b.length b.length 1 (ci b) true hbr (by simp) (by omega) b.length (Nat.le_refl _)
          rw [List.drop_zero,List.take_of_length_le (by simp)] at this
          exact this) rfl
        have hclo := cloneI_m false (ci b) (by rw [hcl]; omega) hcb hv
        simp only [hcl] at hclo
        obtain ⟨m',O',hvis,hI',hE',hO'⟩ := X.hvis s O m b hI hb hb6 (by simp at hs; omega) (by omega) hC
        refine ⟨trim m.length [.bool true] m',O',?_,X.trim hI' _ (by omega) _,hE'.trim _,hO'⟩
        refine call_W lp_ring_rings_1 rfl ?_
        have f1' : (m ++ [⟨ints (ci b),true⟩])[N + 1]? = some ⟨[.func X.f X.first X.cap],true⟩ := by rw [List.getElem?_append_left (by omega)]; exact f1
        simp only [List.cons_append,List.nil_append] at hvis
        simp only [ring_rings_1,ring_rings_1.B,exF_seq,exF_region,exF_cond,exF_ret,runL,wantL,stepL,evL,evC,LEnv.at,putL,loadFine,loadL,cellsAt,Trk.putNew,Trk.up,Trk.touch,Trk.gives,Trk.calm,Trk.hit,opdsOf,Trk.fresh,LEnv.keep,LEnv.ofFrom,List.map_cons,List.map_nil,nbeq,nble,nblt,ofAVs,lenL,bin_sub,bin_eql,natL_nat,natL_zero,natL_one,List.any_cons,List.any_nil,Bool.or_false,Bool.or_true,Bool.and_true,Bool.false_and,Bool.not_true,Bool.not_false,Nat.reduceEqDiff,decide_true,decide_false,cond_true,cond_false,List.filter_nil,Nat.reduceAdd,reduceCtorEq,List.length_nil,List.length_cons,Nat.mul_one,eq_self,retL,resultsL,resAllL,resOfL,List.append_nil,List.nil_append,List.cons_append,List.getElem?_cons_zero,List.take_succ_cons,List.drop_zero,List.take_nil,Nat.le_refl,Nat.lt_add_one,Nat.reduceLT,n0,n1,f0,hpos,hnr,hbr,hlenb,hw1,hlt,bl,hld,sl,Nat.zero_add,Nat.add_zero,hc',b0,hhd,s0,hclo,f1',hvis]
    · have hc' : ¬ ((en P (b.getLastD 0) : Nat) : Int) = ((st P (b.headD 0) : Nat) : Int) := by omega
      have hU := ringsU_step P u b hc
      cases c : (metB P b).testBit (en P (b.getLastD 0))
      · -- on
        rw [c] at hbit hU
        rw [if_neg (by simp)] at hU
        obtain ⟨bf,hlk,hbf⟩ := hW.J.look (en P (b.getLastD 0))
        have hbf' : frm P (en P (b.getLastD 0)) ≠ [] → N ≤ bf ∧ bf ≤ w := fun h => by
          obtain ⟨k1,rfl⟩ := hbf h
          have := hW.hb _ k1
          have := (hW.J.blk _ k1).2.1
          omega
        have hff : frm P (en P (b.getLastD 0)) ≠ [] → m[bf]? = some ⟨ints (ci (frm P (en P (b.getLastD 0)))),true⟩ := fun h => by
          obtain ⟨k1,rfl⟩ := hbf h
          exact (hW.J.blk _ k1).2.2
        have hfr : ∀ i ∈ frm P (en P (b.getLastD 0)),b.headD 0 < i → WalkOk X P (FN nl ex sz P) w β keys u (b ++ [i]) := fun i hi _ => by
          have hm := frmK_mem.1 hi
          refine walk_c X G u (b ++ [i]) (B.snoc hm.1 ?_) (by simp; omega)
          rw [fresh_met,hm.2,c]; rfl
        obtain ⟨m',O',hex,hI',hE',hO'⟩ := walk_loop X G hb hb6 B.lt (en P (b.getLastD 0)) (by omega) bf hbf' hfr (frm P (en P (b.getLastD 0))).length 0 s O m rv (by omega) hW hff hI hC hO hV (by rw [List.drop_zero,← hU]; exact hs)
        rw [List.drop_zero,← hU] at hI'
        simp only [Int.natCast_zero] at hex
        refine ⟨trim m.length [.bool true] m',O',?_,X.trim hI' _ (by omega) _,hE'.trim _,hO'⟩
        refine call_W lp_ring_rings_1 rfl ?_
        have hln : lenL (GV bf (ci (frm P (en P (b.getLastD 0))))) = some (frm P (en P (b.getLastD 0))).length := by
          unfold GV
          split
          · rename_i h; rw [ci_nil.1 h]; rfl
          · simp only [lenL,ci_len]
        rcases hV with ⟨rfl,h1⟩ | ⟨br,rfl,hbr,hwb,hbO,hN⟩
        · have e0 : b.length - 1 = 0 := by omega
          rw [e0] at bl
          have hhl : b.headD 0 = b.getLastD 0 := by rw [← head_at b hpos,← last_el b hlt]; simp only [e0]
          rw [hhl] at s0 hc'
          simp only [ring_rings_1,ring_rings_1.B,exF_seq,exF_region,exF_block,exF_cond,exF_ret,exF_skip,runL,wantL,stepL,evL,evC,LEnv.at,putL,loadFine,loadL,cellsAt,Trk.putNew,Trk.up,Trk.touch,Trk.gives,Trk.calm,Trk.hit,opdsOf,Trk.fresh,LEnv.keep,LEnv.ofFrom,List.map_cons,List.map_nil,nbeq,nble,nblt,ofAV,bin_sub,bin_eql,natL_nat,natL_zero,natL_one,List.any_cons,List.any_nil,Bool.or_false,Bool.or_true,Bool.and_true,Bool.false_and,Bool.not_true,Bool.not_false,Nat.reduceEqDiff,decide_true,decide_false,cond_true,cond_false,List.filter_nil,Nat.reduceAdd,Nat.reduceLeDiff,reduceCtorEq,List.length_nil,List.length_cons,Nat.mul_one,eq_self,retL,resultsL,resAllL,resOfL,List.getElem?_cons_zero,List.take_succ_cons,List.drop_zero,List.take_nil,Nat.le_refl,Nat.lt_add_one,Nat.reduceLT,lenL_lst,n0,n3,f0,f3,bl,hld,sl,Nat.zero_add,Nat.add_zero,hc',s0,hshr,hand,hbit,hlk,hln,hex,hw11]
        · have hbrl := get_lt hbr
          have hnr : ¬ m.length ≤ br := by omega
          simp only [ring_rings_1,ring_rings_1.B,exF_seq,exF_region,exF_block,exF_cond,exF_ret,exF_skip,runL,wantL,stepL,evL,evC,LEnv.at,putL,loadFine,loadL,cellsAt,Trk.putNew,Trk.up,Trk.touch,Trk.gives,Trk.calm,Trk.hit,opdsOf,Trk.fresh,LEnv.keep,LEnv.ofFrom,List.map_cons,List.map_nil,nbeq,nble,nblt,ofAV,bin_sub,bin_eql,natL_nat,natL_zero,natL_one,List.any_cons,List.any_nil,Bool.or_false,Bool.or_true,Bool.and_true,Bool.false_and,Bool.not_true,Bool.not_false,Nat.reduceEqDiff,decide_true,decide_false,cond_true,cond_false,List.filter_nil,Nat.reduceAdd,Nat.reduceLeDiff,reduceCtorEq,List.length_nil,List.length_cons,Nat.mul_one,eq_self,retL,resultsL,resAllL,resOfL,List.getElem?_cons_zero,List.take_succ_cons,List.drop_zero,List.take_nil,Nat.le_refl,Nat.lt_add_one,Nat.reduceLT,lenL_sl,n0,n3,f0,f3,hpos,hnr,hbr,hlenb,hw1,hlt,bl,hld,sl,Nat.zero_add,Nat.add_zero,hc',b0,hhd,s0,hshr,hand,hbit,hlk,hln,hex]
      · -- a form twice
        rw [c] at hbit hU
        rw [if_pos rfl] at hU
        rw [hU]
        refine ⟨m,O,?_,hI,Exn.rfl' m O,fun i hi => .inl hi⟩
        have := call_W (m := m) (m1 := m) (v := .bool true) (args := [rv,.int .i64 ((metB P b : Nat) : Int),.ptr N 0 1,.ptr (N + 1) 0 1,.ptr (N + 3) 0 1,.ptr w 0 1]) lp_ring_rings_1 rfl (by
          rcases hV with ⟨rfl,h1⟩ | ⟨br,rfl,hbr,hwb,hbO,hN⟩
          · have e0 : b.length - 1 = 0 := by omega
            rw [e0] at bl
            have hhl : b.headD 0 = b.getLastD 0 := by rw [← head_at b hpos,← last_el b hlt]; simp only [e0]
            rw [hhl] at s0 hc'
            simp only [ring_rings_1,ring_rings_1.B,exF_seq,exF_region,exF_cond,exF_ret,exF_skip,runL,wantL,stepL,evL,evC,LEnv.at,putL,loadFine,loadL,cellsAt,Trk.putNew,Trk.up,Trk.touch,Trk.gives,Trk.calm,Trk.hit,opdsOf,Trk.fresh,LEnv.keep,LEnv.ofFrom,List.map_cons,List.map_nil,nbeq,nble,nblt,lenL,bin_sub,bin_eql,natL_nat,natL_zero,natL_one,List.any_cons,List.any_nil,Bool.or_false,Bool.or_true,Bool.and_true,Bool.false_and,Bool.not_true,Bool.not_false,Nat.reduceEqDiff,decide_true,decide_false,cond_true,cond_false,List.filter_nil,Nat.reduceAdd,reduceCtorEq,List.length_nil,List.length_cons,Nat.mul_one,eq_self,retL,resultsL,resAllL,resOfL,List.getElem?_cons_zero,List.take_succ_cons,List.drop_zero,List.take_nil,Nat.le_refl,Nat.lt_add_one,Nat.reduceLT,n0,f0,bl,hld,sl,Nat.zero_add,Nat.add_zero,hc',s0,hshr,hand,hbit,hw11]
          · have hbrl := get_lt hbr
            have hnr : ¬ m.length ≤ br := by omega
            simp only [ring_rings_1,ring_rings_1.B,exF_seq,exF_region,exF_cond,exF_ret,exF_skip,runL,wantL,stepL,evL,evC,LEnv.at,putL,loadFine,loadL,cellsAt,Trk.putNew,Trk.up,Trk.touch,Trk.gives,Trk.calm,Trk.hit,opdsOf,Trk.fresh,LEnv.keep,LEnv.ofFrom,List.map_cons,List.map_nil,nbeq,nble,nblt,lenL,bin_sub,bin_eql,natL_nat,natL_zero,natL_one,List.any_cons,List.any_nil,Bool.or_false,Bool.or_true,Bool.and_true,Bool.false_and,Bool.not_true,Bool.not_false,Nat.reduceEqDiff,decide_true,decide_false,cond_true,cond_false,List.filter_nil,Nat.reduceAdd,reduceCtorEq,List.length_nil,List.length_cons,Nat.mul_one,eq_self,retL,resultsL,resAllL,resOfL,List.getElem?_cons_zero,List.take_succ_cons,List.drop_zero,List.take_nil,Nat.le_refl,Nat.lt_add_one,Nat.reduceLT,n0,f0,hpos,hnr,hbr,hlenb,hw1,hlt,bl,hld,sl,Nat.zero_add,Nat.add_zero,hc',b0,hhd,s0,hshr,hand,hbit])
        rw [this,trim_le _ _ _ (Nat.le_refl _)]
end Go.Am.Ring
