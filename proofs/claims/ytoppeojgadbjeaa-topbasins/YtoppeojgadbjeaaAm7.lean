/-
  THE ABSTRACT MACHINE, 7: append and copy.
-/
import Derived.Test.YtoppeojgadbjeaaAm6
set_option linter.unusedVariables false
set_option linter.unusedSimpArgs false
namespace Go.Am
variable [Glo]
variable {P : Program} {ρ : PM} {e : Env} {a : Act}
theorem Stp.drop {m : Mem} {w : World} (h : Rel ρ m w) {i : Nat} {b : Blk} (hb : m.look i = some b) : Stp ρ m w ρ (m.put i ⟨[],false⟩) w := by
  have huse : ∀ j b',(m.put i ⟨[],false⟩).look j = some b' → (b'.own = true ∨ b'.cells ≠ []) → j ≠ i ∧ m.look j = some b' := fun j b' hj hu => by
    rw [Mem.look_put] at hj
    by_cases e : j = i
    · rw [if_pos e] at hj; cases hj; simp at hu
    · rw [if_neg e] at hj; exact ⟨e,hj⟩
  refine ⟨fun _ _ => rfl,⟨fun j hj => h.fresh j hj,fun j b' hj => ?_,fun j k b' b'' p q hj ho hp hk hu hne hq => ?_⟩,Nat.le_refl _,Nat.le_refl _,rfl,rfl,rfl,?_,?_,fun _ _ _ => rfl,fun j hj hn => by rw [Mem.look_put,if_neg (by rintro rfl; rw [hb] at hn; cases hn)]; exact hn⟩
  · rw [Mem.look_put] at hj
    by_cases e : j = i
    · rw [if_pos e] at hj; cases hj
      subst e
      obtain ⟨p,hp,_⟩ := h.blk j b hb
      exact ⟨p,hp,⟨fun _ => ⟨fun n c hc => by simp at hc⟩,fun _ ho => by simp at ho,fun _ _ _ _ hu => (by simp at hu),fun _ _ hu => (by simp at hu)⟩⟩
    · rw [if_neg e] at hj; exact h.blk j b' hj
  · exact h.apart j k b' b'' p q (huse j b' hj (.inl ho)).2 ho hp (huse k b'' hk hu).2 hu hne hq
  · rintro B ⟨j,b',p,hj,ho,hp,rfl⟩
    exact .inl ⟨j,b',p,(huse j b' hj (.inl ho)).2,ho,hp,rfl⟩
  · rintro B ⟨j,b',p,hj,hu,hp,rfl⟩
    exact .inl ⟨j,b',p,(huse j b' hj hu).2,hu,hp,rfl⟩
theorem Stp.move {m : Mem} {w : World} (h : Rel ρ m w) {i o : Nat} {b : Blk} {p : Place} (hb : m.look i = some b) (ho : b.own = true) (hp : ρ i = some p) (hk : p.map = false)
    {cur cur' : Array Value} {ty : TypeId} (hh : w.heap[p.blk]? = some (.cells cur ty (0,0))) (hsz : cur'.size = cur.size) {cs : List AV} (hfin : p.off + o + cs.length ≤ p.fin) (hfin2 : p.fin ≤ cur.size)
    (hv : RowR ρ cs cur'.toList (p.off + o)) : Stp ρ m w (upd ρ m.next ⟨p.blk,p.off + o,p.fin,false,none⟩) ((m.put i ⟨[],false⟩).alloc ⟨cs,true⟩) (w.setRow p.blk cur') := by
  have hnew := setRow_heap w p.blk cur cur' ty (0,0) hh
  have hid : ρ m.next = none := h.fresh _ (Nat.le_refl _)
  have hple := upd_le ⟨p.blk,p.off + o,p.fin,false,none⟩ hid
  have hi : i < m.next := h.lt hb
  have hlook : ∀ j b',((m.put i ⟨[],false⟩).alloc ⟨cs,true⟩).look j = some b' → (j = m.next ∧ b' = ⟨cs,true⟩) ∨ (j = i ∧ b' = ⟨[],false⟩) ∨ (j ≠ m.next ∧ j ≠ i ∧ m.look j = some b') := fun j b' hj => by
    rw [Mem.look_alloc,Mem.next_put] at hj
    by_cases e : j = m.next
    · rw [if_pos e] at hj; cases hj; exact .inl ⟨e,rfl⟩
    · rw [if_neg e,Mem.look_put] at hj
      by_cases e' : j = i
      · rw [if_pos e'] at hj; cases hj; exact .inr (.inl ⟨e',rfl⟩)
      · rw [if_neg e'] at hj; exact .inr (.inr ⟨e,e',hj⟩)
  have apart' : ∀ j b' q,m.look j = some b' → j ≠ i → (b'.own = true ∨ b'.cells ≠ []) → ρ j = some q → q.blk ≠ p.blk := fun j b' q hj hne hu hq => (h.apart i j b b' p q hb ho hp hj hu (Ne.symm hne) hq).symm
  refine ⟨fun j hj => upd_ne _ _ (Nat.ne_of_lt hj),⟨fun j hj => ?_,fun j b' hj => ?_,fun j k b' b'' pj pk hj hoj hpj hk huk hne hpk => ?_⟩,?_,by simp [World.setRow],rfl,rfl,rfl,?_,?_,?_,fun j hj hn => by rw [Mem.look_alloc,Mem.next_put,if_neg (Nat.ne_of_lt hj),Mem.look_put,if_neg (by rintro rfl; rw [hb] at hn; cases hn)]; exact hn⟩
  · have : m.next + 1 ≤ j := hj
    rw [upd_ne _ _ (by omega)]; exact h.fresh j (by omega)
  · rcases hlook j b' hj with ⟨rfl,rfl⟩ | ⟨rfl,rfl⟩ | ⟨h1,h2,h3⟩
    · refine ⟨_,upd_same _ _ _,⟨fun _ => ⟨fun n c hc => ?_⟩,fun _ _ => ⟨cur',ty,hnew,by simpa using hfin,by simp only; omega⟩,fun _ _ c => (by cases c),fun c => (by cases c)⟩⟩
      obtain ⟨v,hv1,hv2⟩ := hv n c hc
      exact ⟨v,by rw [cell_of_row _ _ _ cur' ty (0,0) hnew]; simpa using hv1,hv2.mono hple⟩
    · exact ⟨p,by rw [upd_ne _ _ (Nat.ne_of_lt hi)]; exact hp,⟨fun _ => ⟨fun n c hc => by simp at hc⟩,fun _ ho => by simp at ho,fun _ _ _ _ hu => (by simp at hu),fun _ _ hu => (by simp at hu)⟩⟩
    · obtain ⟨q,hq,hr⟩ := h.blk j b' h3
      exact ⟨q,by rw [upd_ne _ _ h1]; exact hq,hr.kept hple fun hu => setRow_other w p.blk _ cur' (apart' j b' q h3 h2 hu hq)⟩
  · rcases hlook j b' hj with ⟨rfl,rfl⟩ | ⟨rfl,rfl⟩ | ⟨h1,h2,h3⟩
    · rw [upd_same] at hpj; cases hpj
      rcases hlook k b'' hk with ⟨rfl,rfl⟩ | ⟨rfl,rfl⟩ | ⟨h1',h2',h3'⟩
      · exact absurd rfl hne
      · simp at huk
      · rw [upd_ne _ _ h1'] at hpk
        exact (apart' k b'' pk h3' h2' huk hpk).symm
    · simp at hoj
    · rw [upd_ne _ _ h1] at hpj
      rcases hlook k b'' hk with ⟨rfl,rfl⟩ | ⟨rfl,rfl⟩ | ⟨h1',h2',h3'⟩
      · rw [upd_same] at hpk; cases hpk
        exact apart' j b' pj h3 h2 (.inl hoj) hpj
      · simp at huk
      · rw [upd_ne _ _ h1'] at hpk
        exact h.apart j k b' b'' pj pk h3 hoj hpj h3' huk hne hpk
  · show m.next ≤ m.next + 1; omega
  · rintro B ⟨j,b',q,hj,hoj,hq,rfl⟩
    rcases hlook j b' hj with ⟨rfl,rfl⟩ | ⟨rfl,rfl⟩ | ⟨h1,h2,h3⟩
    · rw [upd_same] at hq; cases hq; exact .inl ⟨i,b,p,hb,ho,hp,rfl⟩
    · simp at hoj
    · rw [upd_ne _ _ h1] at hq; exact .inl ⟨j,b',q,h3,hoj,hq,rfl⟩
  · rintro B ⟨j,b',q,hj,hoj,hq,rfl⟩
    rcases hlook j b' hj with ⟨rfl,rfl⟩ | ⟨rfl,rfl⟩ | ⟨h1,h2,h3⟩
    · rw [upd_same] at hq; cases hq; exact .inl ⟨i,b,p,hb,.inl ho,hp,rfl⟩
    · simp at hoj
    · rw [upd_ne _ _ h1] at hq; exact .inl ⟨j,b',q,h3,hoj,hq,rfl⟩
  · intro B hB hn
    exact setRow_other w p.blk B cur' (fun e => hn ⟨i,b,p,hb,ho,hp,e.symm⟩)
inductive Cells (ρ : PM) (w : World) (size : Nat) : AV → Value → List AV → List Value → Prop
  | nil : Cells ρ w size .nilslice (.slice none 0 0) [] []
  | some {i o len cap g c' : Nat} {A : Addr} {cs : List AV} {vs : List Value} (hl : vs.length = len * size) (hv : VRs ρ cs vs) (hc : ∀ j v,vs[j]? = some v → w.cell? (A.add j) = some v) :
      Cells ρ w size (.slice i o len cap g) (.slice (some A) len c') cs vs
theorem sliceCells_sound {m : Mem} {w : World} {size : Nat} {s : AV} {c : Value} {cs : List AV} (hR : Rel ρ m w) (hs : VR ρ s c) (h : sliceCells m size s = some cs) : ∃ vs,Cells ρ w size s c cs vs := by
  have key : ∀ {i o len cap g c' : Nat} {p : Place},ρ i = some p → p.map = false → sliceCells m size (.slice i o len cap g) = some cs → ∃ vs,Cells ρ w size (.slice i o len cap g) (.slice (some ⟨p.blk,p.off + o,none⟩) len c') cs vs := by
    intro i o len cap g c' p hp hk h
    simp only [sliceCells] at h
    split at h
    · rename_i b hb
      obtain ⟨q,hq,hr⟩ := hR.blk i b hb
      rw [hp] at hq; cases hq
      cases hb' : Nat.ble (o + len * size) b.cells.length
      · simp [hb'] at h
      · simp only [hb',cond_true,Option.some.injEq] at h
        subst h
        obtain ⟨vs,h1,h2,h3⟩ := (hr.cells hk).list (len * size) o (by simpa using hb')
        exact ⟨vs,.some h1 h2 fun j v hj => by rw [addr_add]; exact h3 j v hj⟩
    · cases h
  cases hs <;> first | (simp only [sliceCells] at h; cases h; done) | skip
  case slice hp hk => exact key hp hk h
  case grow hp hk _ _ _ => exact key hp hk h
  case last i o g A =>
    simp only [sliceCells] at h
    split at h
    · rename_i b hb
      cases hb' : Nat.ble (o + 0 * size) b.cells.length
      · rw [hb'] at h; cases h
      · rw [hb'] at h
        simp only [cond_true,Option.some.injEq,Nat.zero_mul,List.take_zero] at h
        subst h
        exact ⟨[],.some (by simp) .nil fun j v hj => by simp at hj⟩
    · cases h
  case nilslice =>
    simp only [sliceCells,Option.some.injEq] at h
    subst h
    exact ⟨[],.nil⟩
set_option maxHeartbeats 1000000 in
theorem append_sound {m m' : Mem} {w : World} {t el ty : TypeId} {size bytes : Nat} {z : List AV} {s x v : AV} {cs cx : Value} (hR : Rel ρ m w) (ht : P.underlying t = some (.slice el))
    (hsz : sizeT P el = some size) (hby : bytesT P el = some bytes) (hz : zeroT P el = some z) (hs0 : size ≠ 0) (hs : VR ρ s cs) (hx : VR ρ x cx) (h : appendAt m size bytes s x = some (v,m')) :
    ∃ u w' ρ',(Builtin.append_ #[t,t] ty #[cs,cx]).run P w = .ok u w' ∧ VR ρ' v u ∧ Stp ρ m w ρ' m' w' := by
  obtain ⟨i,hi,hisz⟩ := sizeT_some hsz
  have hib : i.bytes = bytes := by simpa [bytesT,hi] using hby
  obtain ⟨i',zv,hi',hzv,hzr,hzl⟩ := zeroT_some (ρ := ρ) hz
  rw [hi] at hi'; cases hi'
  have hzs : zv.cells.size = size := by have := hzr.length; simp at this; omega
  unfold appendAt at h
  split at h
  · rename_i olds news n k ho hn hln hlk
    obtain ⟨vo,co⟩ := sliceCells_sound hR hs ho
    obtain ⟨vn,cn⟩ := sliceCells_sound hR hx hn
    cases hk0 : Nat.beq k 0
    · simp only [hk0, cond_false] at h
      have hk : k ≠ 0 := by rintro rfl; simp at hk0
      cases hb : (Nat.ble ((n + k) * bytes) roomMost && Nat.ble (n + k) roomMost && news.all AV.scalar)
      · simp [hb] at h
      · simp only [hb,cond_true] at h
        simp only [Bool.and_eq_true,Nat.ble_eq,roomMost] at hb
        obtain ⟨⟨hb1,hb2⟩,hb3⟩ := hb
        cases cn with
        | nil => simp only [sliceLen,Option.some.injEq] at hlk; exact absurd hlk.symm hk
        | some hnl hnv hnc =>
          rename_i ix ox lenx capx gx cx' Ax
          simp only [sliceLen,Option.some.injEq] at hlk
          subst hlk
          -- a new row in the model
          have fresh : ∀ (m1 : Mem) (cap' : Nat) (vs : List Value),Rel ρ m1 w → m1.next = m.next → vs.length = n * size → VRs ρ olds vs →
              ∃ ρ',VR ρ' (.slice m.next 0 (n + lenx) (n + lenx) size) (.slice (some ⟨w.heap.size,0,none⟩) (n + lenx) (grownCap w (n + lenx) cap' el)) ∧
                Stp ρ m1 w ρ' (m1.alloc ⟨olds ++ news,true⟩) (w.drew.alloc (.cells (vs.toArray ++ vn.toArray ++ Builtin.zeroCells zv.cells (grownCap w (n + lenx) cap' el - (n + lenx))) el)) := by
            intro m1 cap' vs hR1 hnx hvl hvr
            have hge := grownCap_ge w (n + lenx) cap' el
            have hall : VRs ρ (olds ++ news) (vs ++ vn) := hvr.append hnv
            have hlen : (olds ++ news).length = (n + lenx) * size := by rw [hall.length,List.length_append,hvl,hnl,Nat.add_mul]
            have hlen2 : (vs ++ vn).length = (n + lenx) * size := by rw [List.length_append,hvl,hnl,Nat.add_mul]
            have hcs : (vs.toArray ++ vn.toArray ++ Builtin.zeroCells zv.cells (grownCap w (n + lenx) cap' el - (n + lenx))).size = grownCap w (n + lenx) cap' el * size := by
              simp only [Array.size_append,List.size_toArray,size_zeroCells,hzs,hvl,hnl,← Nat.add_mul]
              congr 1; omega
            refine ⟨_,?_,Stp.new hR1 (cur := vs.toArray ++ vn.toArray ++ Builtin.zeroCells zv.cells (grownCap w (n + lenx) cap' el - (n + lenx))) (ty := el) rfl rfl rfl rfl ?_ ?_⟩
            · rw [hnx]
              refine VR.grow (p := ⟨w.heap.size,0,_,false,none⟩) (o := 0) (upd_same _ _ _) rfl (by omega) hge ?_
              simp only [Nat.zero_add]
              exact Nat.le_of_eq hcs.symm
            · rw [hcs,hlen]; exact Nat.mul_le_mul_right _ hge
            · rw [hlen,← hlen2]
              simp only [Array.toList_append,List.append_assoc]
              rw [← List.append_assoc,List.take_left]
              exact hall
          cases co with
          | nil =>
            simp only [sliceLen,Option.some.injEq] at hln
            subst hln
            simp only [Option.some.injEq,Prod.mk.injEq] at h
            obtain ⟨rfl,rfl⟩ := h
            have hr := run_append_nil (P := P) w t ty el i zv ht hi hzv Ax lenx cx' vn (by rw [hisz]; exact hnl) hnc (by omega) (by omega) (by rw [hib]; simp only [Nat.zero_add] at hb1; omega)
            obtain ⟨ρ',h1,h2⟩ := fresh m 0 [] hR rfl (by simp) .nil
            simp only [Nat.zero_add,List.nil_append] at h1 h2 ⊢
            exact ⟨_,_,ρ',hr,h1,by simpa using h2⟩
          | some hol hov hoc =>
            rename_i is os lens caps gs cs' As
            simp only [sliceLen,Option.some.injEq] at hln
            subst hln
            simp only at h
            split at h
            · cases h
            · rename_i b hbl
              have grow : cs' < lens + lenx → (Builtin.append_ #[t,t] ty #[.slice (some As) lens cs',.slice (some Ax) lenx cx']).run P w =
                  .ok (.slice (some ⟨w.heap.size,0,none⟩) (lens + lenx) (grownCap w (lens + lenx) cs' el))
                    (w.drew.alloc (.cells (vo.toArray ++ vn.toArray ++ Builtin.zeroCells zv.cells (grownCap w (lens + lenx) cs' el - (lens + lenx))) el)) := fun hlt =>
                run_append_grow (P := P) w t ty el i zv ht hi hzv As lens cs' vo (by rw [hisz]; exact hol) hoc Ax lenx cx' vn (by rw [hisz]; exact hnl) hnc hlt (by omega) (growslice_fits hlt (by rw [hib]; exact hb1))
              have room : ∀ (w' : World),(storeCells (As.add (lens * size)) vn).run P w = .ok () w' → lens + lenx ≤ cs' →
                  (Builtin.append_ #[t,t] ty #[.slice (some As) lens cs',.slice (some Ax) lenx cx']).run P w = .ok (.slice (some As) (lens + lenx) cs') w' := by
                intro w' hst hroom
                have hfc := run_firstCells_some (P := P) w i.size lenx Ax lenx cx' vn (by rw [hisz]; exact hnl) hnc
                rw [hisz] at hfc
                simp [Builtin.append_,run_underlying ht,sizeOf,typeInfo,hi,hisz,Builtin.lenOf,hroom,hfc,hst]
              cases hcap : Nat.ble (lens + lenx) caps
              · simp only [hcap,cond_false] at h
                have hcap' : caps < lens + lenx := by
                  have : ¬ (lens + lenx ≤ caps) := fun hle => by rw [← Nat.ble_eq] at hle; rw [hle] at hcap; cases hcap
                  omega
                cases hg : Nat.beq gs 0
                · simp only [hg,cond_false] at h
                  have hg' : gs ≠ 0 := by rintro rfl; simp at hg
                  cases hob : (b.own && Nat.beq gs size)
                  · simp [hob] at h
                  · simp only [hob,cond_true,Option.some.injEq,Prod.mk.injEq] at h
                    obtain ⟨rfl,rfl⟩ := h
                    simp only [Bool.and_eq_true,Nat.beq_eq] at hob
                    obtain ⟨hown,rfl⟩ := hob
                    have hd := Stp.drop hR hbl
                    have anew : cs' < lens + lenx → ∃ u w' ρ',(Builtin.append_ #[t,t] ty #[.slice (some As) lens cs',.slice (some Ax) lenx cx']).run P w = .ok u w' ∧
                        VR ρ' (.slice m.next 0 (lens + lenx) (lens + lenx) gs) u ∧ Stp ρ m w ρ' ((m.put is ⟨[],false⟩).alloc ⟨olds ++ news,true⟩) w' := fun hlt => by
                      obtain ⟨ρ',h1,h2⟩ := fresh (m.put is ⟨[],false⟩) cs' vo hd.rel rfl hol hov
                      exact ⟨_,_,ρ',grow hlt,h1,hd.trans h2⟩
                    cases hs with
                    | slice hp hk => exact absurd rfl hg'
                    | last => exact anew (by omega)
                    | grow hp hk hg0 hc hf =>
                      rename_i p
                      by_cases hroom : lens + lenx ≤ cs'
                      · obtain ⟨q,hq,hr⟩ := hR.blk is b hbl
                        rw [hp] at hq; cases hq
                        obtain ⟨cur,ty',hh,hf1,hf2⟩ := hr.own hk hown
                        have hmul : (lens + lenx) * gs ≤ cs' * gs := Nat.mul_le_mul_right _ hroom
                        rw [Nat.add_mul] at hmul
                        have hst := run_storeCells_at P p.blk (p.off + os + lens * gs) ty' vn 0 cur w hh (by omega) (hnv.scalar hb3)
                        simp only [Nat.add_zero] at hst
                        have hrun := room _ (by rw [addr_add]; exact hst) hroom
                        refine ⟨_,_,_,hrun,?_,Stp.move (o := os) hR hbl hown hp hk hh ?_ ?_ hf2 ?_⟩
                        · have := VR.grow (ρ := upd ρ m.next ⟨p.blk,p.off + os,p.fin,false,none⟩) (i := m.next) (o := 0) (l := lens + lenx) (c := lens + lenx) (g := gs) (c' := cs') (p := ⟨p.blk,p.off + os,p.fin,false,none⟩) (upd_same _ _ _) rfl hg0 hroom (by simpa using hf)
                          simpa using this
                        · simp; omega
                        · have := (hov.append hnv).length
                          simp only [List.length_append] at this ⊢
                          omega
                        · -- the old cells stand there still,the new ones behind them
                          have holds : ∀ j u,vo[j]? = some u → cur.toList[p.off + os + j]? = some u := fun j u hj => by
                            have := hoc j u hj
                            rw [addr_add,cell_of_row w _ _ cur ty' (0,0) hh] at this
                            simpa using this
                          intro j c hc
                          obtain ⟨u,hu,hur⟩ := (hov.append hnv).get hc
                          refine ⟨u,?_,hur⟩
                          rw [List.append_assoc]
                          by_cases hj : j < vo.length
                          · rw [List.getElem?_append_left hj] at hu
                            rw [List.getElem?_append_left (by simp; omega),List.getElem?_take,if_pos (by omega)]
                            exact holds j u hu
                          · rw [List.getElem?_append_right (by omega)] at hu
                            have hl : (cur.toList.take (p.off + os + lens * gs)).length = p.off + os + lens * gs := by simp; omega
                            rw [List.getElem?_append_right (by omega),hl,List.getElem?_append_left (by have := (List.getElem?_eq_some_iff.1 hu).1; omega),← hu]
                            congr 1; omega
                      · exact anew (by omega)
                · simp only [hg,cond_true,Option.some.injEq,Prod.mk.injEq] at h
                  obtain ⟨rfl,rfl⟩ := h
                  have hg' : gs = 0 := by simpa using hg
                  subst hg'
                  have hlt : cs' < lens + lenx := by
                    cases hs with
                    | slice hp hk => exact hcap'
                    | last => omega
                    | grow hp hk hg0 hc hf => omega
                  obtain ⟨ρ',h1,h2⟩ := fresh m cs' vo hR rfl hol hov
                  exact ⟨_,_,ρ',grow hlt,h1,h2⟩
              · simp only [hcap,cond_true] at h
                have hcap' : lens + lenx ≤ caps := by simpa using hcap
                cases hob : (b.own && Nat.ble (os + (lens + lenx) * size) b.cells.length)
                · simp [hob] at h
                · simp only [hob,cond_true,Option.some.injEq,Prod.mk.injEq] at h
                  obtain ⟨rfl,rfl⟩ := h
                  simp only [Bool.and_eq_true,Nat.ble_eq] at hob
                  have fin : ∀ (p : Place),ρ is = some p → p.map = false → As = ⟨p.blk,p.off + os,none⟩ → caps ≤ cs' →
                      VR ρ (.slice is os (lens + lenx) caps gs) (.slice (some As) (lens + lenx) cs') →
                      ∃ u w' ρ',(Builtin.append_ #[t,t] ty #[.slice (some As) lens cs',.slice (some Ax) lenx cx']).run P w = .ok u w' ∧
                        VR ρ' (.slice is os (lens + lenx) caps gs) u ∧ Stp ρ m w ρ' (m.put is ⟨splice b.cells (os + lens * size) news,true⟩) w' := by
                    intro p hp hk hA hc hvr
                    have hnl2 := hnv.length
                    have hmul : (lens + lenx) * size = lens * size + lenx * size := Nat.add_mul _ _ _
                    obtain ⟨w',hw1,hw2⟩ := write_sound (P := P) (o := os + lens * size) hR hbl hob.1 hp hk hnv (by omega) hb3
                    refine ⟨_,w',ρ,room w' ?_ (by omega),hvr,hw2⟩
                    rw [hA,addr_add,Nat.add_assoc]
                    exact hw1
                  cases hs with
                  | slice hp hk => exact fin _ hp hk rfl (Nat.le_refl _) (.slice hp hk)
                  | last => omega
                  | grow hp hk hg0 hc hf => exact fin _ hp hk rfl hc (.grow hp hk hg0 hc hf)
    · simp only [hk0,cond_true] at h
      have hk : k = 0 := by simpa using hk0
      subst hk
      have hnews : vn = [] := by
        cases cn with
        | nil => rfl
        | some hnl hnv hnc => simp only [sliceLen,Option.some.injEq] at hlk; subst hlk; simpa using hnl
      subst hnews
      have hfc : (Builtin.firstCells size 0 cx).run P w = .ok #[] w := by
        cases cn with
        | nil => exact run_firstCells_none w size 0 0 0
        | some hnl hnv hnc => exact run_firstCells_some (P := P) w size 0 _ _ _ [] (by simp) (by simp)
      have hlen : (Builtin.lenOf cx).run P w = .ok 0 w := by
        cases cn with
        | nil => rfl
        | some hnl hnv hnc => simp only [sliceLen,Option.some.injEq] at hlk; subst hlk; rfl
      have hcx : ∃ A c',cx = .slice A 0 c' := by
        cases cn with
        | nil => exact ⟨_,_,rfl⟩
        | some hnl hnv hnc => simp only [sliceLen,Option.some.injEq] at hlk; subst hlk; exact ⟨_,_,rfl⟩
      obtain ⟨A,c',rfl⟩ := hcx
      cases co with
      | nil =>
        simp only [cond_true,Option.some.injEq,Prod.mk.injEq] at h
        obtain ⟨rfl,rfl⟩ := h
        refine ⟨.slice none 0 0,w,ρ,?_,.nilslice,Stp.refl hR⟩
        simp [Builtin.append_,run_underlying ht,run_size hsz,Builtin.lenOf,hfc]
      | some hol hov hoc =>
        rename_i is os lens caps gs cs' As
        simp only [sliceLen,Option.some.injEq] at hln
        subst hln
        cases hb : Nat.ble lens caps
        · simp [hb] at h
        · simp only [hb,cond_true,Option.some.injEq,Prod.mk.injEq] at h
          obtain ⟨rfl,rfl⟩ := h
          have hle : lens ≤ caps := by simpa using hb
          have hle' : lens ≤ cs' := by
            cases hs with
            | slice hp hk => exact hle
            | last => exact Nat.zero_le _
            | grow hp hk hg0 hc hf => omega
          refine ⟨.slice (some As) lens cs',w,ρ,?_,hs,Stp.refl hR⟩
          simp [Builtin.append_,run_underlying ht,run_size hsz,Builtin.lenOf,hfc,hle',storeCells]
  · cases h
theorem Stp.push {m : Mem} {w w' : World} (h : Rel ρ m w) {ob : Obj} (hw : w'.heap = w.heap.push ob) (hos : w'.os = w.os) (hta : w'.tape = w.tape) (hou : w'.output = w.output) : Stp ρ m w ρ m w' := by
  have hold : ∀ B,B < w.heap.size → w'.heap[B]? = w.heap[B]? := fun B hB => by rw [hw,Array.getElem?_push,if_neg (by omega)]
  refine ⟨fun _ _ => rfl,⟨h.fresh,fun i b hb => ?_,h.apart⟩,Nat.le_refl _,by rw [hw]; simp,hos,hta,hou,fun _ h => .inl h,fun _ h => .inl h,fun B hB _ => hold B hB,fun _ _ h => h⟩
  obtain ⟨p,hp,hr⟩ := h.blk i b hb
  exact ⟨p,hp,hr.kept (PLe.refl _) fun hu => hold _ (hr.lt hu)⟩
structure Lent (ρ : PM) (m : Mem) (ρ' : PM) (m1 : Mem) (s v : AV) : Prop where
  out : ∀ i o n c g,s = .slice i o n c g → m1.look i = some ⟨[],false⟩ → ∀ b bo bl bc bg,v = .slice b bo bl bc bg → ∃ bi p q news,m.look i = some bi ∧ bi.own = true ∧ ρ i = some p ∧ p.map = false ∧
    ρ' b = some q ∧ (q.blk = p.blk → q.off = p.off ∧ q.fin = p.fin) ∧ b = m.next ∧ m1.look b = some ⟨bi.cells ++ news,true⟩ ∧ ∀ j,j ≠ i → j ≠ b → m1.look j = m.look j
set_option maxHeartbeats 1000000 in
theorem append_keep {m m' : Mem} {w : World} {t el ty : TypeId} {size bytes : Nat} {z : List AV} {s x v : AV} {cs cx : Value} (hR : Rel ρ m w) (ht : P.underlying t = some (.slice el))
    (hsz : sizeT P el = some size) (hby : bytesT P el = some bytes) (hz : zeroT P el = some z) (hs0 : size ≠ 0) (hs : VR ρ s cs) (hx : VR ρ x cx) (h : appendAt m size bytes s x = some (v,m')) (hAW : awayOk m s x = true) :
    ∃ u w' ρ',(Builtin.append_ #[t,t] ty #[cs,cx]).run P w = .ok u w' ∧ VR ρ' v u ∧ Stp ρ m w ρ' m' w' ∧ Stp ρ m w ρ m w' ∧ Lent ρ m ρ' m' s v := by
  obtain ⟨i,hi,hisz⟩ := sizeT_some hsz
  have hib : i.bytes = bytes := by simpa [bytesT,hi] using hby
  obtain ⟨i',zv,hi',hzv,hzr,hzl⟩ := zeroT_some (ρ := ρ) hz
  rw [hi] at hi'; cases hi'
  have hzs : zv.cells.size = size := by have := hzr.length; simp at this; omega
  unfold appendAt at h
  split at h
  · rename_i olds news n k ho hn hln hlk
    obtain ⟨vo,co⟩ := sliceCells_sound hR hs ho
    obtain ⟨vn,cn⟩ := sliceCells_sound hR hx hn
    cases hk0 : Nat.beq k 0
    · simp only [hk0, cond_false] at h
      have hk : k ≠ 0 := by rintro rfl; simp at hk0
      cases hb : (Nat.ble ((n + k) * bytes) roomMost && Nat.ble (n + k) roomMost && news.all AV.scalar)
      · simp [hb] at h
      · simp only [hb,cond_true] at h
        simp only [Bool.and_eq_true,Nat.ble_eq,roomMost] at hb
        obtain ⟨⟨hb1,hb2⟩,hb3⟩ := hb
        cases cn with
        | nil => simp only [sliceLen,Option.some.injEq] at hlk; exact absurd hlk.symm hk
        | some hnl hnv hnc =>
          rename_i ix ox lenx capx gx cx' Ax
          simp only [sliceLen,Option.some.injEq] at hlk
          subst hlk
          -- a new row in the model
          have fresh : ∀ (m1 : Mem) (cap' : Nat) (vs : List Value),Rel ρ m1 w → m1.next = m.next → vs.length = n * size → VRs ρ olds vs →
              ∃ F,VR (upd ρ m.next ⟨w.heap.size,0,F,false,none⟩) (.slice m.next 0 (n + lenx) (n + lenx) size) (.slice (some ⟨w.heap.size,0,none⟩) (n + lenx) (grownCap w (n + lenx) cap' el)) ∧
                Stp ρ m1 w (upd ρ m.next ⟨w.heap.size,0,F,false,none⟩) (m1.alloc ⟨olds ++ news,true⟩) (w.drew.alloc (.cells (vs.toArray ++ vn.toArray ++ Builtin.zeroCells zv.cells (grownCap w (n + lenx) cap' el - (n + lenx))) el)) := by
            intro m1 cap' vs hR1 hnx hvl hvr
            have hge := grownCap_ge w (n + lenx) cap' el
            have hall : VRs ρ (olds ++ news) (vs ++ vn) := hvr.append hnv
            have hlen : (olds ++ news).length = (n + lenx) * size := by rw [hall.length,List.length_append,hvl,hnl,Nat.add_mul]
            have hlen2 : (vs ++ vn).length = (n + lenx) * size := by rw [List.length_append,hvl,hnl,Nat.add_mul]
            have hcs : (vs.toArray ++ vn.toArray ++ Builtin.zeroCells zv.cells (grownCap w (n + lenx) cap' el - (n + lenx))).size = grownCap w (n + lenx) cap' el * size := by
              simp only [Array.size_append,List.size_toArray,size_zeroCells,hzs,hvl,hnl,← Nat.add_mul]
              congr 1; omega
            refine ⟨(vs.toArray ++ vn.toArray ++ Builtin.zeroCells zv.cells (grownCap w (n + lenx) cap' el - (n + lenx))).size,?_,?_⟩
            · refine VR.grow (p := ⟨w.heap.size,0,_,false,none⟩) (o := 0) (upd_same _ _ _) rfl (by omega) hge ?_
              simp only [Nat.zero_add]
              exact Nat.le_of_eq hcs.symm
            · rw [← hnx]
              refine Stp.new hR1 (cur := vs.toArray ++ vn.toArray ++ Builtin.zeroCells zv.cells (grownCap w (n + lenx) cap' el - (n + lenx))) (ty := el) rfl rfl rfl rfl ?_ ?_
              · rw [hcs,hlen]; exact Nat.mul_le_mul_right _ hge
              · rw [hlen,← hlen2]
                simp only [Array.toList_append,List.append_assoc]
                rw [← List.append_assoc,List.take_left]
                exact hall
          cases co with
          | nil =>
            simp only [sliceLen,Option.some.injEq] at hln
            subst hln
            simp only [Option.some.injEq,Prod.mk.injEq] at h
            obtain ⟨rfl,rfl⟩ := h
            have hr := run_append_nil (P := P) w t ty el i zv ht hi hzv Ax lenx cx' vn (by rw [hisz]; exact hnl) hnc (by omega) (by omega) (by rw [hib]; simp only [Nat.zero_add] at hb1; omega)
            obtain ⟨F,h1,h2⟩ := fresh m 0 [] hR rfl (by simp) .nil
            simp only [Nat.zero_add,List.nil_append] at h1 h2 ⊢
            exact ⟨_,_,_,hr,h1,by simpa using h2,Stp.push hR rfl rfl rfl rfl,⟨fun i o n c g e => by cases e⟩⟩
          | some hol hov hoc =>
            rename_i is os lens caps gs cs' As
            simp only [sliceLen,Option.some.injEq] at hln
            subst hln
            have hAW2 : 0 < lens ∧ caps < lens + lenx ∧ (gs = 0 ∨ ∃ b,m.look is = some b ∧ os = 0 ∧ lens * gs = b.cells.length) := by
              simp only [awayOk,sliceLen,Bool.and_eq_true,Bool.or_eq_true,Nat.blt_eq,Nat.beq_eq] at hAW
              obtain ⟨_,⟨q1,q2⟩,q3⟩ := hAW
              refine ⟨q1,q2,q3.imp id fun q => ?_⟩
              split at q
              · rename_i b hb
                simp only [Bool.and_eq_true,Nat.beq_eq] at q
                exact ⟨b,hb,q.1,q.2⟩
              · cases q
            simp only at h
            split at h
            · cases h
            · rename_i b hbl
              have grow : cs' < lens + lenx → (Builtin.append_ #[t,t] ty #[.slice (some As) lens cs',.slice (some Ax) lenx cx']).run P w =
                  .ok (.slice (some ⟨w.heap.size,0,none⟩) (lens + lenx) (grownCap w (lens + lenx) cs' el))
                    (w.drew.alloc (.cells (vo.toArray ++ vn.toArray ++ Builtin.zeroCells zv.cells (grownCap w (lens + lenx) cs' el - (lens + lenx))) el)) := fun hlt =>
                run_append_grow (P := P) w t ty el i zv ht hi hzv As lens cs' vo (by rw [hisz]; exact hol) hoc Ax lenx cx' vn (by rw [hisz]; exact hnl) hnc hlt (by omega) (growslice_fits hlt (by rw [hib]; exact hb1))
              have room : ∀ (w' : World),(storeCells (As.add (lens * size)) vn).run P w = .ok () w' → lens + lenx ≤ cs' →
                  (Builtin.append_ #[t,t] ty #[.slice (some As) lens cs',.slice (some Ax) lenx cx']).run P w = .ok (.slice (some As) (lens + lenx) cs') w' := by
                intro w' hst hroom
                have hfc := run_firstCells_some (P := P) w i.size lenx Ax lenx cx' vn (by rw [hisz]; exact hnl) hnc
                rw [hisz] at hfc
                simp [Builtin.append_,run_underlying ht,sizeOf,typeInfo,hi,hisz,Builtin.lenOf,hroom,hfc,hst]
              cases hcap : Nat.ble (lens + lenx) caps
              · simp only [hcap,cond_false] at h
                have hcap' : caps < lens + lenx := by
                  have : ¬ (lens + lenx ≤ caps) := fun hle => by rw [← Nat.ble_eq] at hle; rw [hle] at hcap; cases hcap
                  omega
                cases hg : Nat.beq gs 0
                · simp only [hg,cond_false] at h
                  have hg' : gs ≠ 0 := by rintro rfl; simp at hg
                  cases hob : (b.own && Nat.beq gs size)
                  · simp [hob] at h
                  · simp only [hob,cond_true,Option.some.injEq,Prod.mk.injEq] at h
                    obtain ⟨rfl,rfl⟩ := h
                    simp only [Bool.and_eq_true,Nat.beq_eq] at hob
                    obtain ⟨hown,rfl⟩ := hob
                    have hd := Stp.drop hR hbl
                    have hfull : os = 0 ∧ lens * gs = b.cells.length := by
                      rcases hAW2.2.2 with c | ⟨b',hb',c1,c2⟩
                      · exact absurd c hg'
                      · rw [hbl] at hb'; cases hb'; exact ⟨c1,c2⟩
                    have holds : olds = b.cells := by
                      simp only [sliceCells,hbl] at ho
                      rw [hfull.1,hfull.2,Nat.zero_add,show Nat.ble b.cells.length b.cells.length = true by simp] at ho
                      simp only [cond_true,Option.some.injEq,List.drop_zero,List.take_length] at ho
                      exact ho.symm
                    have hisn : is < m.next := hR.lt hbl
                    have lent : ∀ (p : Place) (ρ' : PM) (q : Place),ρ is = some p → p.map = false → ρ' m.next = some q → (q.blk = p.blk → q.off = p.off ∧ q.fin = p.fin) →
                        Lent ρ m ρ' ((m.put is ⟨[],false⟩).alloc ⟨olds ++ news,true⟩) (.slice is os lens caps gs) (.slice m.next 0 (lens + lenx) (lens + lenx) gs) := fun p ρ' q hp hk hq hqp => by
                      refine ⟨fun i o n c g e e1 b' bo bl bc bg e2 => ?_⟩
                      cases e; cases e2
                      refine ⟨b,p,q,news,hbl,hown,hp,hk,hq,hqp,rfl,?_,fun j h1 h2 => ?_⟩
                      · rw [Mem.look_alloc,Mem.next_put,if_pos rfl,holds]
                      · rw [Mem.look_alloc,Mem.next_put,if_neg h2,Mem.look_put,if_neg h1]
                    have anew : cs' < lens + lenx → ∀ p,ρ is = some p → p.map = false → ∃ u w' ρ',(Builtin.append_ #[t,t] ty #[.slice (some As) lens cs',.slice (some Ax) lenx cx']).run P w = .ok u w' ∧
                        VR ρ' (.slice m.next 0 (lens + lenx) (lens + lenx) gs) u ∧ Stp ρ m w ρ' ((m.put is ⟨[],false⟩).alloc ⟨olds ++ news,true⟩) w' ∧ Stp ρ m w ρ m w' ∧
                        Lent ρ m ρ' ((m.put is ⟨[],false⟩).alloc ⟨olds ++ news,true⟩) (.slice is os lens caps gs) (.slice m.next 0 (lens + lenx) (lens + lenx) gs) := fun hlt p hp hk => by
                      obtain ⟨F,h1,h2⟩ := fresh (m.put is ⟨[],false⟩) cs' vo hd.rel rfl hol hov
                      refine ⟨_,_,_,grow hlt,h1,hd.trans h2,Stp.push hR rfl rfl rfl rfl,lent p _ _ hp hk (upd_same _ _ _) fun e => ?_⟩
                      have := UseAt.lt hR (B := p.blk) ⟨is,b,p,hbl,.inl hown,hp,rfl⟩
                      simp only at e
                      omega
                    cases hs with
                    | slice hp hk => exact absurd rfl hg'
                    | last => exact absurd hAW2.1 (by omega)
                    | grow hp hk hg0 hc hf =>
                      rename_i p
                      by_cases hroom : lens + lenx ≤ cs'
                      · obtain ⟨q,hq,hr⟩ := hR.blk is b hbl
                        rw [hp] at hq; cases hq
                        obtain ⟨cur,ty',hh,hf1,hf2⟩ := hr.own hk hown
                        have hmul : (lens + lenx) * gs ≤ cs' * gs := Nat.mul_le_mul_right _ hroom
                        rw [Nat.add_mul] at hmul
                        have hst := run_storeCells_at P p.blk (p.off + os + lens * gs) ty' vn 0 cur w hh (by omega) (hnv.scalar hb3)
                        simp only [Nat.add_zero] at hst
                        have hrun := room _ (by rw [addr_add]; exact hst) hroom
                        have hkeep : Stp ρ m w ρ m (w.setRow p.blk (cur.toList.take (p.off + os + lens * gs) ++ vn ++ cur.toList.drop (p.off + os + lens * gs + vn.length)).toArray) := by
                          have hsz2 : (cur.toList.take (p.off + os + lens * gs) ++ vn ++ cur.toList.drop (p.off + os + lens * gs + vn.length)).toArray.size = cur.size := by simp; omega
                          have hnew := setRow_heap w p.blk cur (cur.toList.take (p.off + os + lens * gs) ++ vn ++ cur.toList.drop (p.off + os + lens * gs + vn.length)).toArray ty' (0,0) hh
                          have hrow := RowR.of_cells (hr.cells hk) hh
                          have := Stp.writeB (cs := b.cells) hR hbl hown hp (w' := w.setRow p.blk (cur.toList.take (p.off + os + lens * gs) ++ vn ++ cur.toList.drop (p.off + os + lens * gs + vn.length)).toArray) (by simp [World.setRow]) (fun B hB => setRow_other w p.blk B _ hB) rfl rfl rfl
                            ⟨fun _ => ⟨fun j c hc => by
                              obtain ⟨u,hu,hur⟩ := hrow j c hc
                              have hj : j < b.cells.length := (List.getElem?_eq_some_iff.1 hc).1
                              refine ⟨u,?_,hur⟩
                              rw [cell_of_row _ _ _ _ ty' (0,0) hnew]
                              simp only [List.getElem?_toArray,List.append_assoc]
                              rw [List.getElem?_append_left (by simp; omega),List.getElem?_take,if_pos (by omega)]
                              exact hu⟩,fun _ _ => ⟨_,ty',hnew,hf1,by rw [hsz2]; exact hf2⟩,fun _ _ c => (by rw [hk] at c; cases c),fun c => by rw [hk] at c; cases c⟩
                          refine this.sub rfl fun j bj hj => ?_
                          rw [Mem.look_put]
                          by_cases e : j = is
                          · rw [if_pos e]
                            subst e
                            rw [hbl] at hj
                            cases hj
                            obtain ⟨bc,bo⟩ := b
                            simp only at hown
                            subst hown
                            rfl
                          · rw [if_neg e]; exact hj
                        refine ⟨_,_,_,hrun,?_,Stp.move (o := os) hR hbl hown hp hk hh ?_ ?_ hf2 ?_,hkeep,lent p _ _ hp hk (upd_same _ _ _) fun _ => ⟨by simp [hfull.1],rfl⟩⟩
                        · have := VR.grow (ρ := upd ρ m.next ⟨p.blk,p.off + os,p.fin,false,none⟩) (i := m.next) (o := 0) (l := lens + lenx) (c := lens + lenx) (g := gs) (c' := cs') (p := ⟨p.blk,p.off + os,p.fin,false,none⟩) (upd_same _ _ _) rfl hg0 hroom (by simpa using hf)
                          simpa using this
                        · simp; omega
                        · have := (hov.append hnv).length
                          simp only [List.length_append] at this ⊢
                          omega
                        · -- the old cells stand there still,the new ones behind them
                          have holds : ∀ j u,vo[j]? = some u → cur.toList[p.off + os + j]? = some u := fun j u hj => by
                            have := hoc j u hj
                            rw [addr_add,cell_of_row w _ _ cur ty' (0,0) hh] at this
                            simpa using this
                          intro j c hc
                          obtain ⟨u,hu,hur⟩ := (hov.append hnv).get hc
                          refine ⟨u,?_,hur⟩
                          rw [List.append_assoc]
                          by_cases hj : j < vo.length
                          · rw [List.getElem?_append_left hj] at hu
                            rw [List.getElem?_append_left (by simp; omega),List.getElem?_take,if_pos (by omega)]
                            exact holds j u hu
                          · rw [List.getElem?_append_right (by omega)] at hu
                            have hl : (cur.toList.take (p.off + os + lens * gs)).length = p.off + os + lens * gs := by simp; omega
                            rw [List.getElem?_append_right (by omega),hl,List.getElem?_append_left (by have := (List.getElem?_eq_some_iff.1 hu).1; omega),← hu]
                            congr 1; omega
                      · exact anew (by omega) p hp hk
                · simp only [hg,cond_true,Option.some.injEq,Prod.mk.injEq] at h
                  obtain ⟨rfl,rfl⟩ := h
                  have hg' : gs = 0 := by simpa using hg
                  subst hg'
                  have hlt : cs' < lens + lenx := by
                    cases hs with
                    | slice hp hk => exact hcap'
                    | last => omega
                    | grow hp hk hg0 hc hf => omega
                  obtain ⟨F,h1,h2⟩ := fresh m cs' vo hR rfl hol hov
                  refine ⟨_,_,_,grow hlt,h1,h2,Stp.push hR rfl rfl rfl rfl,⟨fun i o n c g e e1 => ?_⟩⟩
                  cases e
                  have hne : is ≠ m.next := fun e => by have := hR.lt hbl; omega
                  rw [Mem.look_alloc,if_neg hne,hbl] at e1
                  cases e1
                  simp only [sliceCells,hbl] at ho
                  have hpos : 0 < lens * size := Nat.mul_pos hAW2.1 (Nat.pos_of_ne_zero hs0)
                  rw [show Nat.ble (os + lens * size) ([] : List AV).length = false by rw [← Bool.not_eq_true,Nat.ble_eq]; simp; omega] at ho
                  cases ho
              · have hcap' : lens + lenx ≤ caps := by simpa using hcap
                exact absurd hAW2.2.1 (by omega)
    · have hk : k = 0 := by simpa using hk0
      subst hk
      simp [awayOk,hlk] at hAW
  · cases h
end Go.Am
