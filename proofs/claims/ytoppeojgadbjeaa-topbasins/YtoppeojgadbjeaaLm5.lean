/-
  THE LIST MACHINE, 5: its operations on memory are the abstract machine's.
-/
import Derived.Test.YtoppeojgadbjeaaLm4
import Derived.Test.YtoppeojgadbjeaaAm9
set_option linter.unusedVariables false
namespace Go.Am
variable [Glo]
section
variable {s : Sit} {lo : Nat} {le : LEnv} {ae : Env}
def Still (s t : Sit) (T : Nat → Prop) : Prop := ∀ i b,s.lm[i]? = some b → ¬ T i → t.ρ i = s.ρ i ∧ t.am.look (s.ρ i) = s.am.look (s.ρ i) ∧ ∃ b',t.lm[i]? = some b' ∧ b'.cells = b.cells
def Pend (s t : Sit) (slot : Option Nat) : Prop := ∀ r,r < s.am.next → s.am.look r = none → slot ≠ some r → t.am.look r = none
def Done (lo : Nat) (s : Sit) (slot : Option Nat) (T : Nat → Prop) (v : LV) (lm' : LMem) (av : AV) (am' : Mem) : Prop :=
  ∃ t : Sit,t.lm = lm' ∧ t.am = am' ∧ Rel2 t ∧ Stp2 lo s t ∧ LR t v av ∧ Still s t T ∧ Pend s t slot
omit [Glo] in
theorem Still.refl (s : Sit) (T : Nat → Prop) : Still s s T := fun i b h _ => ⟨rfl,rfl,b,h,rfl⟩
theorem done_same (hs : Rel2 s) (slot : Option Nat) (T : Nat → Prop) {v : LV} {av : AV} (h : LR s v av) : Done lo s slot T v s.lm av s.am :=
  ⟨s,rfl,rfl,hs,Stp2.refl _ _,h,Still.refl _ _,fun r _ h _ => h⟩
omit [Glo] in
theorem cellsAt_ok {cs : List LV} {cs' : List AV} (h : LRs s cs cs') {o n : Nat} {g : Bool} {x : LV} (hx : cellsAt cs o g n = some x) :
    ∃ ax,cond g (cond (Nat.ble (o + n) cs'.length) (some (AV.agg ((cs'.drop o).take n))) none) cs'[o]? = some ax ∧ LR s x ax := by
  unfold cellsAt at hx
  cases g
  · simp only [cond_false] at hx ⊢
    exact h.get hx
  · simp only [cond_true] at hx ⊢
    cases hc : Nat.ble (o + n) cs.length <;> rw [hc] at hx <;> simp only [cond_true,cond_false,Option.some.injEq,reduceCtorEq] at hx
    subst hx
    rw [← h.length,hc]
    exact ⟨_,rfl,h.agg_take _ _⟩
theorem load_ok (hs : Rel2 s) {g : Bool} {n : Nat} {v x : LV} {a : AV} (hr : LR s v a) (h : loadL s.lm g n v = some x) : ∃ ax,loadAt s.am g n a = some ax ∧ LR s x ax := by
  unfold loadL at h
  split at h
  · rename_i i o L
    split at h
    · rename_i b hb
      cases hc : Nat.beq b.cells.length L <;> rw [hc] at h <;> simp only [cond_true,cond_false,reduceCtorEq] at h
      have hc : b.cells.length = L := by simpa using hc
      obtain ⟨p,rfl,_,hk⟩ := hr.ptr_inv
      obtain rfl := hk ⟨b,hb,hc⟩
      obtain ⟨ab,h1,h2,_⟩ := hs.blk i b hb
      obtain ⟨ax,h3,h4⟩ := cellsAt_ok h2 h
      exact ⟨ax,by simp only [loadAt,h1,h3],h4⟩
    · cases h
  · rename_i cs o
    obtain ⟨b,p,blk,rfl,g1,g2,g3,g4,g5⟩ := hr.elt_inv
    obtain ⟨ax,h3,h4⟩ := cellsAt_ok g4 h
    refine ⟨ax,?_,h4⟩
    simp only [loadAt,g2]
    have hl : ((blk.cells.drop p).take cs.length).length = cs.length := take_of_length _ _ _ g3
    cases g
    · simp only [cond_false] at h3 ⊢
      rw [List.getElem?_take] at h3
      split at h3
      · rw [List.getElem?_drop] at h3; exact h3
      · cases h3
    · simp only [cond_true] at h3 ⊢
      cases hc : Nat.ble (o + n) ((blk.cells.drop p).take cs.length).length <;> rw [hc] at h3 <;> simp only [cond_true,cond_false,reduceCtorEq] at h3
      rw [hl] at hc
      have hc : o + n ≤ cs.length := by simpa using hc
      rw [show Nat.ble (p + o + n) blk.cells.length = true by simp; omega]
      simp only [cond_true]
      rw [← h3,List.drop_take,List.take_take,Nat.min_eq_left (by omega),List.drop_drop]
  · cases h
theorem owned_put (hs : Rel2 s) {i : Nat} {b : LBlk} {cs : List LV} {cs' : List AV} (hb : s.lm[i]? = some b) (ho : b.own = true) : Still s (sitPut s i cs cs') (fun j => j = i) := by
  intro j bj hj hne
  refine ⟨rfl,?_,bj,?_,rfl⟩
  · show (s.am.put (s.ρ i) ⟨cs',true⟩).look (s.ρ j) = _
    rw [Mem.look_put]
    exact if_neg fun e => hne (hs.inj i j b bj hb ho hj e.symm).symm
  · show (s.lm.set i _)[j]? = _
    rw [getElem?_set' _ _ _ _ (List.getElem?_eq_some_iff.1 hb).1,if_neg hne]; exact hj
theorem pend_put (hs : Rel2 s) {i : Nat} {b : LBlk} {cs : List LV} {cs' : List AV} (hb : s.lm[i]? = some b) (slot : Option Nat) : Pend s (sitPut s i cs cs') slot := by
  intro r hr h0 _
  show (s.am.put (s.ρ i) ⟨cs',true⟩).look r = _
  rw [Mem.look_put,if_neg]
  · exact h0
  · rintro rfl
    obtain ⟨ab,h1,_⟩ := hs.blk i b hb
    rw [h0] at h1; cases h1
omit [Glo] in
theorem spliceL_length {l vs : List LV} {o : Nat} (h : o + vs.length ≤ l.length) : (spliceL l o vs).length = l.length := by
  unfold spliceL
  simp only [List.length_append,List.length_take,List.length_drop]
  omega
theorem store_ok (hs : Rel2 s) {n : Nat} {a v : LV} {a' v' : AV} (ha : LR s a a') (hv : LR s v v') {lm' : LMem} (h : storeL s.lm n a v = some lm') (slot : Option Nat) :
    ∃ am',storeAt s.am n a' v' = some am' ∧ Done lo s slot (fun j => ∃ o L,a = .ptr j o L) .undef lm' .undef am' := by
  unfold storeL at h
  split at h
  · rename_i i o L
    split at h
    · rename_i b hb
      split at h
      · rename_i vs hvs
        cases hc : (b.own && (Nat.beq b.cells.length L && (Nat.beq vs.length n && (Nat.ble (o + n) L && vs.all LV.scalar)))) <;> rw [hc] at h <;> simp only [cond_true,cond_false,Option.some.injEq,reduceCtorEq] at h
        subst h
        simp only [Bool.and_eq_true] at hc
        obtain ⟨ho,hL,hn,hle,hsc⟩ := hc
        have hL : b.cells.length = L := by simpa using hL
        have hn : vs.length = n := by simpa using hn
        have hle : o + n ≤ L := by simpa using hle
        obtain ⟨p,rfl,_,hk⟩ := ha.ptr_inv
        obtain rfl := hk ⟨b,hb,hL⟩
        obtain ⟨ab,h1,h2,h3,_⟩ := hs.blk i b hb
        have hvv := hv.cells hvs
        have hst : storeAt s.am n (.ptr (s.ρ i) o) v' = some (s.am.put (s.ρ i) ⟨splice ab.cells o v'.cells,true⟩) := by
          simp only [storeAt,h1]
          rw [show (ab.own && (v'.cells.length == n && (Nat.ble (o + n) ab.cells.length && v'.cells.all AV.scalar))) = true by
            rw [(h3 ho).1,hvv.scalar hsc,← hvv.length,← h2.length]; simp; omega]
          rfl
        obtain ⟨r1,r2⟩ := put_ok (lo := lo) hs hb ho (cs := spliceL b.cells o vs) (cs' := splice ab.cells o v'.cells) (spliceL_length (by omega)) (h2.spl o hvv)
        refine ⟨_,hst,sitPut s i _ _,rfl,rfl,r1,r2,.undef _,?_,pend_put hs hb slot⟩
        intro j bj hj hne
        exact owned_put hs hb ho j bj hj fun e => hne ⟨o,L,by rw [e]⟩
      · cases h
    · cases h
  · cases h
theorem fill_ok : ∀ {ps : List (Nat × Nat × Opd)} {cells : List LV} {cells' : List AV} {cs : List LV},(∀ p ∈ ps,OpdR s le ae p.2.2) → LRs s cells cells' → fillL cells (ps.map fun p => (p.1,p.2.1,evL le p.2.2)) = some cs →
    ∃ cs',fill cells' (ps.map fun p => (p.1,p.2.1,p.2.2.ev ae)) = some cs' ∧ LRs s cs cs' ∧ cs.length = cells.length
  | [],cells,cells',cs,_,hc,h => by
    simp only [List.map_nil,fillL,Option.some.injEq] at h
    subst h
    exact ⟨cells',rfl,hc,rfl⟩
  | p :: r,cells,cells',cs,hp,hc,h => by
    simp only [List.map_cons,fillL] at h
    split at h
    · rename_i vs hvs
      cases hq : (Nat.beq vs.length p.2.1 && Nat.ble (p.1 + p.2.1) cells.length) <;> rw [hq] at h <;> simp only [cond_true,cond_false,reduceCtorEq] at h
      have hv := LR.cells (hp p (by simp)) hvs
      obtain ⟨cs',h1,h2,h3⟩ := fill_ok (fun q hq => hp q (by simp [hq])) (hc.spl p.1 hv) h
      simp only [Bool.and_eq_true] at hq
      have hq1 : vs.length = p.2.1 := by simpa using hq.1
      have hq2 : p.1 + p.2.1 ≤ cells.length := by simpa using hq.2
      refine ⟨cs',?_,h2,by rw [h3,spliceL_length (by omega)]⟩
      simp only [List.map_cons,fill]
      rw [show ((p.2.2.ev ae).cells.length == p.2.1 && Nat.ble (p.1 + p.2.1) cells'.length) = true by rw [← hv.length,← hc.length]; simp; omega]
      exact h1
    · cases h
omit [Glo] in
theorem ofAVs_length : ∀ z : List AV,(ofAVs z).length = z.length
  | [] => rfl
  | a :: r => by simp [ofAVs,ofAVs_length r]
omit [Glo] in
theorem LRs.getD {cs : List LV} {cs' : List AV} (h : LRs s cs cs') (j : Nat) : LR s (cs.getD j .undef) (cs'.getD j .undef) := by
  rw [List.getD_eq_getElem?_getD,List.getD_eq_getElem?_getD]
  cases e : cs[j]? with
  | none => exact .undef _
  | some x => obtain ⟨u,hu,hr⟩ := h.get e; rw [hu]; exact hr
omit [Glo] in
theorem LRs.map {α : Type} {f : α → LV} {g : α → AV} : ∀ (l : List α),(∀ x ∈ l,LR s (f x) (g x)) → LRs s (l.map f) (l.map g)
  | [],_ => .nil
  | x :: r,h => .cons (h x (by simp)) (LRs.map r fun y hy => h y (by simp [hy]))
omit [Glo] in
theorem zeros_ok (z : List AV) (n : Nat) : LRs s (zerosL (ofAVs z) n) (zeros z n) := by
  unfold zerosL zeros
  rw [ofAVs_length]
  exact LRs.map _ fun i _ => (LRs.ofAVs s z).getD _
omit [Glo] in
theorem zerosL_length (z : List LV) (n : Nat) : (zerosL z n).length = n := by simp [zerosL]
theorem new_done (hs : Rel2 s) {slot : Option Nat} (hslot : SlotOk lo s slot) {cs : List LV} {cs' : List AV} (hc : LRs s cs cs') (T : Nat → Prop) {v : LV} {av : AV}
    (hv : LR (sitNew s (allocIn s.am slot ⟨cs',true⟩).2 (allocIn s.am slot ⟨cs',true⟩).1 cs) v av) : Done lo s slot T v (s.lm ++ [⟨cs,true⟩]) av (allocIn s.am slot ⟨cs',true⟩).2 := by
  have hf := free_in hs hslot ⟨cs',true⟩
  obtain ⟨r1,r2⟩ := new_ok hs hf hc
  refine ⟨sitNew s _ _ cs,rfl,rfl,r1,r2,hv,fun i b hb _ => ?_,fun r hr h0 hne => ?_⟩
  · have hi := (List.getElem?_eq_some_iff.1 hb).1
    refine ⟨if_neg (by omega),?_,b,?_,rfl⟩
    · show (allocIn s.am slot ⟨cs',true⟩).2.look _ = _
      rw [hf.look,if_neg (hf.notPlace hs hb)]
    · show (s.lm ++ [_])[i]? = _
      rw [getElem?_snoc,if_neg (by omega)]; exact hb
  · show (allocIn s.am slot ⟨cs',true⟩).2.look _ = _
    rw [hf.look,if_neg]
    · exact h0
    · cases slot with
      | none => show r ≠ s.am.next; omega
      | some q => show r ≠ q; exact fun e => hne (by rw [e])
omit [Glo] in
theorem okNew (am' : Mem) (id : Nat) (cs : List LV) : leL (sitNew s am' id cs).lm s.lm.length cs.length ∧ (sitNew s am' id cs).ρ s.lm.length = id :=
  ⟨leL_eq (b := ⟨cs,true⟩) (by show (s.lm ++ [_])[_]? = _; simp) rfl,if_pos rfl⟩
theorem contents_ok (hs : Rel2 s) {size : Nat} {v : LV} {a : AV} {cs : List LV} {n : Nat} (hr : LR s v a) (h : contents s.lm size v = some (cs,n)) :
    ∃ cs',sliceCells s.am size a = some cs' ∧ sliceLen a = some n ∧ LRs s cs cs' ∧ cs.length = n * size := by
  unfold contents at h
  split at h
  · rename_i nl ex sz m cs0
    cases hc : (Nat.beq m 0 || Nat.beq size sz) <;> rw [hc] at h <;> simp only [cond_true,cond_false,Option.some.injEq,Prod.mk.injEq,reduceCtorEq] at h
    obtain ⟨rfl,rfl⟩ := h
    rcases hr.lst_inv with ⟨_,rfl,rfl,rfl⟩ | ⟨_,b,o,cap,g,blk,rfl,g1,g2,g3,g4,g5,g6,g7,g8⟩
    · exact ⟨[],rfl,rfl,.nil,by simp⟩
    · have hl := g4.length
      rw [take_of_length _ _ _ g3] at hl
      simp only [Bool.or_eq_true] at hc
      by_cases hm : m = 0
      · subst hm
        refine ⟨[],?_,rfl,?_,by omega⟩
        · simp only [sliceCells,g2,Nat.zero_mul,Nat.add_zero]
          rw [show Nat.ble o blk.cells.length = true by simp; omega]
          simp
        · have : cs0 = [] := by simpa using hl
          subst this; exact .nil
      · have hsz : size = sz := by rcases hc with c | c; exact absurd (by simpa using c) hm; simpa using c
        subst hsz
        refine ⟨_,?_,rfl,g4,hl⟩
        simp only [sliceCells,g2]
        rw [show Nat.ble (o + m * size) blk.cells.length = true by simp; omega]
        rfl
  · rename_i i o m cap g sz L
    split at h
    · rename_i b hb
      cases hc : (Nat.beq b.cells.length L && Nat.ble (o + m * size) L) <;> rw [hc] at h <;> simp only [cond_true,cond_false,Option.some.injEq,Prod.mk.injEq,reduceCtorEq] at h
      obtain ⟨rfl,rfl⟩ := h
      simp only [Bool.and_eq_true] at hc
      have hL : b.cells.length = L := by simpa using hc.1
      have ho : o + m * size ≤ L := by simpa using hc.2
      obtain ⟨p,rfl,_,hk,_⟩ := hr.sl_inv
      obtain rfl := hk ⟨b,hb,hL⟩
      obtain ⟨ab,h1,h2,_⟩ := hs.blk i b hb
      refine ⟨_,?_,rfl,(h2.drop o).take (m * size),take_of_length _ _ _ (by omega)⟩
      simp only [sliceCells,h1]
      rw [show Nat.ble (o + m * size) ab.cells.length = true by rw [← h2.length]; simp; omega]
      rfl
    · cases h
  · cases h
theorem append_ok (hs : Rel2 s) (hlo : lo ≤ s.am.next) {size bytes : Nat} {x y v : LV} {a b : AV} {lm' : LMem} (hx : LR s x a) (hy : LR s y b) (h : appendL s.lm size bytes x y = some (v,lm')) (slot : Option Nat) :
    ∃ av am',appendAt s.am size bytes a b = some (av,am') ∧ Done lo s slot (fun j => ∃ o n cap g sz L,x = .sl j o n cap g sz L) v lm' av am' := by
  have hslot : SlotOk lo s none := ⟨hlo,fun r h => by cases h⟩
  have hnew : ∀ {cs : List LV} {cs' : List AV} {n : Nat} {v : LV} {lm' : LMem} (T : Nat → Prop),LRs s cs cs' → cs.length = n * size → some (newSl s.lm size n cs) = some (v,lm') → Done lo s slot T v lm' (.slice s.am.next 0 n n size) (s.am.alloc ⟨cs',true⟩) := by
    intro cs cs' n v lm' T hc hl e
    simp only [newSl,Option.some.injEq,Prod.mk.injEq] at e
    obtain ⟨rfl,rfl⟩ := e
    obtain ⟨t,h1,h2,h3,h4,h5,h6,h7⟩ := new_done (s := s) (lo := lo) hs hslot hc T (v := .sl s.lm.length 0 n n size size (n * size)) (av := .slice s.am.next 0 n n size) (by
      obtain ⟨k1,k2⟩ := okNew (s := s) (allocIn s.am none ⟨cs',true⟩).2 (allocIn s.am none ⟨cs',true⟩).1 cs
      exact .sl (by rw [← hl]; exact k1) (fun _ => k2.symm) (.inr rfl))
    exact ⟨t,h1,h2,h3,h4,h5,h6,fun r hr h0 _ => h7 r hr h0 (by simp)⟩
  unfold appendL at h
  split at h
  · rename_i olds n news k ho hn
    obtain ⟨olds',a1,a2,a3,a4⟩ := contents_ok hs hx ho
    obtain ⟨news',b1,b2,b3,b4⟩ := contents_ok hs hy hn
    simp only [appendAt,a1,a2,b1,b2]
    cases hk : Nat.beq k 0
    · rw [hk] at h
      simp only [cond_false] at h ⊢
      cases hr : (Nat.ble ((n + k) * bytes) roomMost && Nat.ble (n + k) roomMost && news.all LV.scalar) <;> rw [hr] at h <;> simp only [cond_true,cond_false,reduceCtorEq] at h
      simp only [Bool.and_eq_true] at hr
      rw [show (Nat.ble ((n + k) * bytes) roomMost && Nat.ble (n + k) roomMost && news'.all AV.scalar) = true by rw [hr.1.1,hr.1.2,b3.scalar hr.2]; rfl]
      simp only [cond_true]
      have hk0 : 0 < k := by
        cases k with
        | zero => cases hk
        | succ k => omega
      have hlen : (olds ++ news).length = (n + k) * size := by rw [List.length_append,a4,b4,Nat.add_mul]
      split at h
      · rename_i nl ex sz n0 cs0
        cases hq : (nl || ex) <;> rw [hq] at h <;> simp only [cond_true,cond_false,reduceCtorEq] at h
        rcases hx.lst_inv with ⟨_,rfl,rfl,rfl⟩ | ⟨rfl,b',o,cap,g,blk,rfl,g1,g2,g3,g4,g5,g6,g7,g8⟩
        · exact ⟨_,_,rfl,hnew _ (a3.append b3) hlen h⟩
        · obtain ⟨rfl,rfl⟩ := g8 (by simpa using hq)
          have : n = cap := by
            simp only [sliceLen,Option.some.injEq] at a2; omega
          subst this
          simp only [g2]
          rw [show Nat.ble (n + k) n = false by
            cases hc : Nat.ble (n + k) n
            · rfl
            · have : n + k ≤ n := by simpa using hc
              omega]
          simp only [cond_false]
          exact ⟨_,_,rfl,hnew _ (a3.append b3) hlen h⟩
      · rename_i i o n0 cap g sz L
        split at h
        · cases h
        · rename_i bl hbl
          have hLo : bl.cells.length = L ∧ n0 = n ∧ o + n * size ≤ L := by
            simp only [contents,hbl] at ho
            cases hc : (Nat.beq bl.cells.length L && Nat.ble (o + n0 * size) L) <;> rw [hc] at ho <;> simp only [cond_true,cond_false,Option.some.injEq,Prod.mk.injEq,reduceCtorEq] at ho
            simp only [Bool.and_eq_true] at hc
            obtain ⟨_,rfl⟩ := ho
            exact ⟨by simpa using hc.1,rfl,by simpa using hc.2⟩
          obtain ⟨hL,rfl,hon⟩ := hLo
          obtain ⟨p,rfl,_,hkk,hg⟩ := hx.sl_inv
          obtain rfl := hkk ⟨bl,hbl,hL⟩
          obtain ⟨ab,h1,h2,h3,_⟩ := hs.blk i bl hbl
          simp only [h1]
          cases hcap : Nat.ble (n0 + k) cap
          · rw [hcap] at h
            simp only [cond_false] at h ⊢
            cases hg0 : Nat.beq g 0
            · rw [hg0] at h
              simp only [cond_false] at h ⊢
              cases hq : (bl.own && Nat.beq g size && Nat.blt 0 L) <;> rw [hq] at h <;> simp only [cond_true,cond_false,reduceCtorEq] at h
              simp only [Bool.and_eq_true] at hq
              obtain ⟨⟨q1,q2⟩,q0⟩ := hq
              have q0' : 0 < L := by simpa [Nat.blt_eq] using q0
              rw [(h3 q1).1,q2]
              simp only [Bool.and_self,cond_true]
              cases hq3 : Nat.blt L ((n0 + k) * size)
              · rw [hq3] at h
                simp only [cond_false,newSl,Option.some.injEq,Prod.mk.injEq] at h
                obtain ⟨rfl,rfl⟩ := h
                obtain ⟨r1,r2,r3⟩ := kill_ok (lo := lo) hs hbl q1
                have hslot' : SlotOk lo (sitKill s i) none := ⟨hlo,fun r h => by cases h⟩
                obtain ⟨t,e1,e2,e3,e4,e5,e6,e7⟩ := new_done (s := sitKill s i) (lo := lo) r1 hslot' ((a3.append b3).mono r3) (fun _ => False) (v := .sl (s.lm.set i ⟨[],false⟩).length 0 (n0 + k) (n0 + k) size size ((n0 + k) * size)) (av := .slice s.am.next 0 (n0 + k) (n0 + k) size) (by
                  obtain ⟨k1,k2⟩ := okNew (s := sitKill s i) (allocIn (sitKill s i).am none ⟨olds' ++ news',true⟩).2 (allocIn (sitKill s i).am none ⟨olds' ++ news',true⟩).1 (olds ++ news)
                  exact .sl (by rw [← hlen]; exact k1) (fun _ => k2.symm) (.inr rfl))
                refine ⟨_,_,rfl,t,e1,e2,e3,r2.trans e4,e5,fun j bj hj hne => ?_,fun r hr h0 _ => ?_⟩
                · have hji : j ≠ i := fun e => hne ⟨o,n0,cap,g,sz,L,by rw [e]⟩
                  obtain ⟨abj,w1,_⟩ := hs.blk j bj hj
                  have hj' : (sitKill s i).lm[j]? = some bj := by
                    show (s.lm.set i _)[j]? = _
                    rw [getElem?_set' _ _ _ _ (List.getElem?_eq_some_iff.1 hbl).1,if_neg hji]; exact hj
                  obtain ⟨x1,x2,x3⟩ := e6 j bj hj' (fun h => h)
                  refine ⟨x1,x2.trans ?_,x3⟩
                  show (s.am.put (s.ρ i) ⟨[],false⟩).look (s.ρ j) = _
                  rw [Mem.look_put,if_neg fun e => hji (hs.inj i j bl bj hbl q1 hj e.symm).symm]
                · refine e7 r hr ?_ (by simp)
                  show (s.am.put (s.ρ i) ⟨[],false⟩).look r = none
                  rw [Mem.look_put,if_neg]
                  · exact h0
                  · rintro rfl
                    rw [h0] at h1; cases h1
              rw [hq3] at h
              simp only [cond_true,Option.some.injEq,Prod.mk.injEq] at h
              obtain ⟨rfl,rfl⟩ := h
              have q3' : L < (n0 + k) * size := by simpa [Nat.blt_eq] using hq3
              obtain ⟨r1,r2⟩ := grow_ok (lo := lo) hs hbl q1 (by omega) (cs := olds ++ news) (cs' := olds' ++ news') (by omega) (a3.append b3) hlo
              refine ⟨_,_,rfl,sitGrow s i (olds ++ news) ((s.am.put (s.ρ i) ⟨[],false⟩).alloc ⟨olds' ++ news',true⟩) s.am.next,rfl,rfl,r1,r2,?_,fun j bj hj hne => ?_,fun r hr h0 _ => ?_⟩
              · refine .sl (leL_eq (b := ⟨olds ++ news,true⟩) ?_ (by show (olds ++ news).length = _; omega)) (fun _ => (if_pos rfl).symm) (.inr rfl)
                show (s.lm.set i _)[i]? = _
                rw [getElem?_set' _ _ _ _ (List.getElem?_eq_some_iff.1 hbl).1,if_pos rfl]
              · have hji : j ≠ i := fun e => hne ⟨o,n0,cap,g,sz,L,by rw [e]⟩
                obtain ⟨abj,k1,_⟩ := hs.blk j bj hj
                refine ⟨if_neg hji,?_,bj,?_,rfl⟩
                · show ((s.am.put (s.ρ i) ⟨[],false⟩).alloc _).look _ = _
                  rw [Mem.look_alloc,Mem.look_put,if_neg (show ¬ s.ρ j = (s.am.put (s.ρ i) _).next from Nat.ne_of_lt (hs.next _ _ k1)),if_neg fun e => hji (hs.inj i j bl bj hbl q1 hj e.symm).symm]
                · show (s.lm.set i _)[j]? = _
                  rw [getElem?_set' _ _ _ _ (List.getElem?_eq_some_iff.1 hbl).1,if_neg hji]; exact hj
              · show ((s.am.put (s.ρ i) ⟨[],false⟩).alloc _).look _ = _
                rw [Mem.look_alloc,Mem.look_put,if_neg (show ¬ r = (s.am.put (s.ρ i) _).next from Nat.ne_of_lt hr),if_neg]
                · exact h0
                · rintro rfl
                  rw [h0] at h1; cases h1
            · rw [hg0] at h
              simp only [cond_true] at h ⊢
              exact ⟨_,_,rfl,hnew _ (a3.append b3) hlen h⟩
          · rw [hcap] at h
            simp only [cond_true] at h ⊢
            cases hq : (bl.own && Nat.ble (o + (n0 + k) * size) L) <;> rw [hq] at h <;> simp only [cond_true,cond_false,Option.some.injEq,Prod.mk.injEq,reduceCtorEq] at h
            obtain ⟨rfl,rfl⟩ := h
            simp only [Bool.and_eq_true] at hq
            have q2 : o + (n0 + k) * size ≤ L := by simpa using hq.2
            rw [(h3 hq.1).1,show Nat.ble (o + (n0 + k) * size) ab.cells.length = true by rw [← h2.length]; simp; omega]
            simp only [Bool.and_self,cond_true]
            have hfit : o + n0 * size + news.length ≤ bl.cells.length := by rw [b4,hL]; rw [Nat.add_mul] at q2; omega
            obtain ⟨r1,r2⟩ := put_ok (lo := lo) hs hbl hq.1 (cs := spliceL bl.cells (o + n0 * size) news) (cs' := splice ab.cells (o + n0 * size) news') (spliceL_length hfit) (h2.spl _ b3)
            refine ⟨_,_,rfl,sitPut s i _ _,rfl,rfl,r1,r2,.sl (leL_eq (b := ⟨spliceL bl.cells (o + n0 * size) news,true⟩) (by
              show (s.lm.set i _)[i]? = _
              rw [getElem?_set' _ _ _ _ (List.getElem?_eq_some_iff.1 hbl).1,if_pos rfl]) (by show (spliceL bl.cells (o + n0 * size) news).length = _; rw [spliceL_length hfit]; omega)) (fun _ => rfl) hg,?_,pend_put hs hbl slot⟩
            intro j bj hj hne
            exact owned_put hs hbl hq.1 j bj hj fun e => hne ⟨o,n0,cap,g,sz,L,by rw [e]⟩
      · cases h
    · rw [hk] at h
      simp only [cond_true] at h ⊢
      split at h
      · rename_i i o n0 cap g sz L
        obtain ⟨p,rfl,_⟩ := hx.sl_inv
        cases hq : Nat.ble n0 cap <;> rw [hq] at h <;> simp only [cond_true,cond_false,Option.some.injEq,Prod.mk.injEq,reduceCtorEq] at h
        obtain ⟨rfl,rfl⟩ := h
        exact ⟨_,_,by simp only [hq,cond_true],done_same hs slot _ hx⟩
      · rename_i hns
        simp only [Option.some.injEq,Prod.mk.injEq] at h
        obtain ⟨rfl,rfl⟩ := h
        refine ⟨a,s.am,?_,done_same hs slot _ hx⟩
        cases x <;> simp only [contents,reduceCtorEq] at ho
        · rcases hx.lst_inv with ⟨_,rfl,rfl,rfl⟩ | ⟨rfl,b',o,cap,g,blk,rfl,g1,g2,g3,g4,g5,g6,g7,g8⟩
          · rfl
          · simp only [show Nat.ble _ cap = true from by simpa using g6,cond_true]
        · exact absurd rfl (hns _ _ _ _ _ _ _)
  · cases h
theorem copy_ok (hs : Rel2 s) {size : Nat} {x y v : LV} {a b : AV} {lm' : LMem} (hx : LR s x a) (hy : LR s y b) (h : copyL s.lm size x y = some (v,lm')) (slot : Option Nat) :
    ∃ av am',copyAt s.am size a b = some (av,am') ∧ Done lo s slot (fun j => ∃ o n cap g sz L,x = .sl j o n cap g sz L) v lm' av am' := by
  unfold copyL at h
  split at h
  · rename_i c0 k0 ex sz n0 cs0 hn
    obtain ⟨news',b1,b2,b3,b4⟩ := contents_ok hs hy hn
    simp only [Option.some.injEq,Prod.mk.injEq] at h
    obtain ⟨rfl,rfl⟩ := h
    rcases hx.lst_inv with ⟨_,rfl,rfl,rfl⟩ | ⟨h0,_⟩
    · exact ⟨.int .i64 0,s.am,by simp only [copyAt,b1,b2]; rfl,done_same hs slot _ (.int _ _)⟩
    · cases h0
  · rename_i news k i o n cap g sz L hn
    obtain ⟨news',b1,b2,b3,b4⟩ := contents_ok hs hy hn
    split at h
    · cases h
    · rename_i bl hbl
      cases hq : (bl.own && (Nat.beq bl.cells.length L && (Nat.ble (o + n * size) L && news.all LV.scalar))) <;> rw [hq] at h <;> simp only [cond_true,cond_false,Option.some.injEq,Prod.mk.injEq,reduceCtorEq] at h
      obtain ⟨rfl,rfl⟩ := h
      simp only [Bool.and_eq_true] at hq
      obtain ⟨q1,q2,q3,q4⟩ := hq
      have hL : bl.cells.length = L := by simpa using q2
      have hon : o + n * size ≤ L := by simpa using q3
      obtain ⟨p,rfl,_,hkk,hg⟩ := hx.sl_inv
      obtain rfl := hkk ⟨bl,hbl,hL⟩
      obtain ⟨ab,h1,h2,h3,_⟩ := hs.blk i bl hbl
      have hlen : (news.take (Nat.min k n * size)).length ≤ n * size := by
        rw [List.length_take]
        exact Nat.le_trans (Nat.min_le_left _ _) (Nat.mul_le_mul_right _ (Nat.min_le_right _ _))
      obtain ⟨r1,r2⟩ := put_ok (lo := lo) hs hbl q1 (cs := spliceL bl.cells o (news.take (Nat.min k n * size))) (cs' := splice ab.cells o (news'.take (Nat.min k n * size))) (spliceL_length (by omega)) (h2.spl _ (b3.take _))
      refine ⟨.int .i64 (Nat.min k n),_,?_,sitPut s i _ _,rfl,rfl,r1,r2,.int _ _,?_,pend_put hs hbl slot⟩
      · simp only [copyAt,b1,b2]
        show (match s.am.look (s.ρ i) with | none => none | some b => cond (b.own && (Nat.ble (o + n * size) b.cells.length && news'.all AV.scalar)) _ none : Option (AV × Mem)) = _
        simp only [h1]
        rw [show (ab.own && (Nat.ble (o + n * size) ab.cells.length && news'.all AV.scalar)) = true by
          rw [(h3 q1).1,b3.scalar q4,← h2.length]; simp; omega]
        rfl
      · intro j bj hj hne
        exact owned_put hs hbl q1 j bj hj fun e => hne ⟨o,n,cap,g,sz,L,by rw [e]⟩
  · cases h
omit [Glo] in
theorem replicate_ok (s : Sit) (z : AV) : ∀ n,LRs s (List.replicate n (ofAV z)) (List.replicate n z)
  | 0 => .nil
  | n + 1 => .cons (LR.ofAV s z) (replicate_ok s z n)
theorem clr_ok (hs : Rel2 s) {z : AV} {x : LV} {a : AV} {lm' : LMem} (hx : LR s x a) (h : clrL s.lm z x = some lm') (slot : Option Nat) :
    ∃ am',clrAt s.am z a = some am' ∧ Done lo s slot (fun j => ∃ o n cap g sz L,x = .sl j o n cap g sz L) .undef lm' .undef am' := by
  unfold clrL at h
  split at h
  · rename_i ex sz n0 cs0
    simp only [Option.some.injEq] at h
    subst h
    rcases hx.lst_inv with ⟨_,rfl,rfl,rfl⟩ | ⟨h0,_⟩
    · exact ⟨s.am,rfl,done_same hs slot _ (.undef _)⟩
    · cases h0
  · rename_i i o n cap g sz L
    split at h
    · cases h
    · rename_i bl hbl
      cases hq : (bl.own && (Nat.beq bl.cells.length L && (Nat.ble (o + n) L && z.scalar))) <;> rw [hq] at h <;> simp only [cond_true,cond_false,Option.some.injEq,reduceCtorEq] at h
      subst h
      simp only [Bool.and_eq_true] at hq
      obtain ⟨q1,q2,q3,q4⟩ := hq
      have hL : bl.cells.length = L := by simpa using q2
      have hon : o + n ≤ L := by simpa using q3
      obtain ⟨p,rfl,_,hkk,hg⟩ := hx.sl_inv
      obtain rfl := hkk ⟨bl,hbl,hL⟩
      obtain ⟨ab,h1,h2,h3,_⟩ := hs.blk i bl hbl
      obtain ⟨r1,r2⟩ := put_ok (lo := lo) hs hbl q1 (cs := spliceL bl.cells o (List.replicate n (ofAV z))) (cs' := splice ab.cells o (List.replicate n z)) (spliceL_length (by rw [List.length_replicate]; omega)) (h2.spl _ (replicate_ok s z n))
      refine ⟨_,?_,sitPut s i _ _,rfl,rfl,r1,r2,.undef _,?_,pend_put hs hbl slot⟩
      · show (match s.am.look (s.ρ i) with | none => none | some b => cond (b.own && (Nat.ble (o + n) b.cells.length && z.scalar)) (some (s.am.put (s.ρ i) ⟨splice b.cells o (List.replicate n z),true⟩)) none : Option Mem) = _
        simp only [h1]
        rw [show (ab.own && (Nat.ble (o + n) ab.cells.length && z.scalar)) = true by
          rw [(h3 q1).1,q4,← h2.length]; simp; omega]
        rfl
      · intro j bj hj hne
        exact owned_put hs hbl q1 j bj hj fun e => hne ⟨o,n,cap,g,sz,L,by rw [e]⟩
  · cases h
theorem clrs_ok (hs : Rel2 s) {z : List AV} {x : LV} {a : AV} {lm' : LMem} (hx : LR s x a) (h : clrsL s.lm z x = some lm') (slot : Option Nat) :
    ∃ am',clrsAt s.am z a = some am' ∧ Done lo s slot (fun j => ∃ o n cap g sz L,x = .sl j o n cap g sz L) .undef lm' .undef am' := by
  unfold clrsL at h
  split at h
  · rename_i ex sz n0 cs0
    simp only [Option.some.injEq] at h
    subst h
    rcases hx.lst_inv with ⟨_,rfl,rfl,rfl⟩ | ⟨h0,_⟩
    · exact ⟨s.am,rfl,done_same hs slot _ (.undef _)⟩
    · cases h0
  · rename_i i o n cap g sz L
    split at h
    · cases h
    · rename_i bl hbl
      cases hq : (bl.own && (Nat.beq bl.cells.length L && (Nat.ble (o + n * z.length) L && z.all AV.scalar))) <;> rw [hq] at h <;> simp only [cond_true,cond_false,Option.some.injEq,reduceCtorEq] at h
      subst h
      simp only [Bool.and_eq_true] at hq
      obtain ⟨q1,q2,q3,q4⟩ := hq
      have hL : bl.cells.length = L := by simpa using q2
      have hon : o + n * z.length ≤ L := by simpa using q3
      obtain ⟨p,rfl,_,hkk,hg⟩ := hx.sl_inv
      obtain rfl := hkk ⟨bl,hbl,hL⟩
      obtain ⟨ab,h1,h2,h3,_⟩ := hs.blk i bl hbl
      obtain ⟨r1,r2⟩ := put_ok (lo := lo) hs hbl q1 (cs := spliceL bl.cells o (zerosL (ofAVs z) (n * z.length))) (cs' := splice ab.cells o (zeros z (n * z.length))) (spliceL_length (by rw [zerosL_length]; omega)) (h2.spl _ (zeros_ok z _))
      refine ⟨_,?_,sitPut s i _ _,rfl,rfl,r1,r2,.undef _,?_,pend_put hs hbl slot⟩
      · show (match s.am.look (s.ρ i) with | none => none | some b => cond (b.own && (Nat.ble (o + n * z.length) b.cells.length && z.all AV.scalar)) (some (s.am.put (s.ρ i) ⟨splice b.cells o (zeros z (n * z.length)),true⟩)) none : Option Mem) = _
        simp only [h1]
        rw [show (ab.own && (Nat.ble (o + n * z.length) ab.cells.length && z.all AV.scalar)) = true by
          rw [(h3 q1).1,q4,← h2.length]; simp; omega]
        rfl
      · intro j bj hj hne
        exact owned_put hs hbl q1 j bj hj fun e => hne ⟨o,n,cap,g,sz,L,by rw [e]⟩
  · cases h
omit [Glo] in
theorem len_ok {x : LV} {a : AV} {k : Nat} (hx : LR s x a) (h : lenL x = some k) : sliceLen a = some k := by
  unfold lenL at h
  split at h
  · simp only [Option.some.injEq] at h
    subst h
    rcases hx.lst_inv with ⟨_,rfl,rfl,_⟩ | ⟨_,_,_,_,_,_,rfl,_⟩ <;> rfl
  · simp only [Option.some.injEq] at h
    subst h
    obtain ⟨_,rfl,_⟩ := hx.sl_inv
    rfl
  · cases h
theorem away_ok (hs : Rel2 s) {x y : LV} {a b : AV} (hx : LR s x a) (hy : LR s y b) (h : awayL s.lm x y = true) : awayOk s.am a b = true := by
  unfold awayL at h
  split at h
  · rename_i k hk
    have hk' := len_ok hy hk
    simp only [awayOk,hk']
    simp only [Bool.and_eq_true] at h ⊢
    refine ⟨h.1,?_⟩
    obtain ⟨hk0,h⟩ := h
    have hk0 : k ≠ 0 := by rintro rfl; simp at hk0
    split at h
    · rename_i nl ex sz n cs
      rcases hx.lst_inv with ⟨_,rfl,_⟩ | ⟨rfl,b0,o,cap,g,blk,rfl,_,_,_,_,_,_,_,hex⟩
      · rfl
      · simp only [Bool.or_eq_true,Bool.and_eq_true,Nat.blt_eq,Bool.false_eq_true,false_or] at h
        obtain ⟨rfl,rfl⟩ := hex h.1
        simp only [Bool.and_eq_true,Nat.blt_eq,Bool.or_eq_true]
        exact ⟨⟨h.2.1,by omega⟩,.inl rfl⟩
    · rename_i i o n cap g sz L
      split at h
      · rename_i bl hbl
        simp only [Bool.and_eq_true,Nat.beq_eq,Nat.blt_eq] at h
        obtain ⟨h1,h2,h3,h4,h5,_⟩ := h
        obtain ⟨p,rfl,_,hkk,_⟩ := hx.sl_inv
        obtain rfl := hkk ⟨bl,hbl,h1⟩
        obtain ⟨ab,q1,q2,_⟩ := hs.blk i bl hbl
        simp only [q1,Bool.and_eq_true,Nat.blt_eq,Bool.or_eq_true,Nat.beq_eq]
        exact ⟨⟨h4,h5⟩,.inr ⟨h2,by rw [h3,← h1,q2.length]⟩⟩
      · cases h
    · cases h
  · cases h
omit [Glo] in
theorem append_moved {m m1 : Mem} {n b : Nat} {i o l cap g : Nat} {x vv : AV} (hk : awayOk m (.slice i o l cap g) x = true) (hg : g ≠ 0) (h : appendAt m n b (.slice i o l cap g) x = some (vv,m1)) :
    ∃ bl news,m.look i = some bl ∧ bl.own = true ∧ o = 0 ∧ l * g = bl.cells.length ∧ g = n ∧ m1 = (m.put i ⟨[],false⟩).alloc ⟨bl.cells ++ news,true⟩ ∧ sliceCells m n x = some news ∧ ∃ k,sliceLen x = some k ∧ vv = .slice m.next 0 (l + k) (l + k) n := by
  unfold appendAt at h
  split at h
  · rename_i olds news k0 k ho hn hln hlk
    simp only [awayOk,hlk,Bool.and_eq_true,Bool.not_eq_true'] at hk
    obtain ⟨hk0,hk1⟩ := hk
    rw [hk0] at h
    simp only [cond_false] at h
    cases hb : (Nat.ble ((k0 + k) * b) roomMost && Nat.ble (k0 + k) roomMost && news.all AV.scalar)
    · rw [hb] at h; cases h
    rw [hb] at h
    simp only [cond_true] at h
    simp only [sliceLen,Option.some.injEq] at hln
    subst hln
    simp only [Nat.blt_eq,Bool.or_eq_true,Nat.beq_eq] at hk1
    obtain ⟨⟨q1,q2⟩,q3⟩ := hk1
    split at h
    · cases h
    · rename_i bl hbl
      rw [hbl] at q3
      simp only [Bool.and_eq_true,Nat.beq_eq] at q3
      have q3 := q3.resolve_left hg
      rw [show Nat.ble (l + k) cap = false by rw [← Bool.not_eq_true,Nat.ble_eq]; omega] at h
      simp only [cond_false] at h
      rw [show Nat.beq g 0 = false by rw [← Bool.not_eq_true,Nat.beq_eq]; exact hg] at h
      simp only [cond_false] at h
      cases hq : (bl.own && Nat.beq g n)
      · rw [hq] at h; cases h
      · rw [hq] at h
        simp only [cond_true,Option.some.injEq,Prod.mk.injEq] at h
        obtain ⟨hvv,rfl⟩ := h
        simp only [Bool.and_eq_true,Nat.beq_eq] at hq
        obtain ⟨hown,rfl⟩ := hq
        refine ⟨bl,news,hbl,hown,q3.1,q3.2,rfl,?_,hn,k,hlk,hvv.symm⟩
        simp only [sliceCells,hbl] at ho
        rw [q3.1,q3.2,Nat.zero_add,show Nat.ble bl.cells.length bl.cells.length = true by simp] at ho
        simp only [cond_true,Option.some.injEq,List.drop_zero,List.take_length] at ho
        rw [ho]
  · cases h
omit [Glo] in
theorem eqInts_det {t u : Sit} : ∀ {xs ys : List LV} {a b : List AV},eqIntsL xs ys = some true → LRs t xs a → LRs u ys b → xs = ys ∧ a = b
  | [],[],_,_,_,.nil,.nil => ⟨rfl,rfl⟩
  | [],_ :: _,_,_,h,_,_ => by simp [eqIntsL] at h
  | x :: r,[],_,_,h,_,_ => by cases x <;> simp [eqIntsL] at h
  | x :: r,y :: q,_,_,h,.cons h1 h2,.cons k1 k2 => by
    cases x <;> cases y <;> simp only [eqIntsL,reduceCtorEq] at h
    rename_i k m k' m'
    cases hk : k == k' <;> rw [hk] at h <;> simp only [cond_true,cond_false,reduceCtorEq] at h
    split at h
    · rename_i z hz
      simp only [Option.some.injEq,Bool.and_eq_true,beq_iff_eq] at h
      obtain ⟨rfl,rfl⟩ := h
      obtain ⟨rfl,rfl⟩ := eqInts_det hz h2 k2
      have hk : k = k' := by simpa using hk
      subst hk
      cases h1.int_inv; cases k1.int_inv
      exact ⟨rfl,rfl⟩
    · cases h
omit [Glo] in
theorem LR.map_inv {i : Nat} {a : AV} (h : LR s (.map i) a) : ∃ b,a = .map b ∧ leL s.lm i 1 ∧ (okL s.lm i 1 → b = s.ρ i) := by cases h; exact ⟨_,rfl,‹_›,‹_›⟩
omit [Glo] in
theorem LR.isInt {v : LV} {a : AV} (h : LR s v a) (e : v.isInt = true) : a.isInt = true := by
  cases h <;> first | rfl | (cases e; done)
omit [Glo] in
theorem keyEq_ok {x y : LV} {a b : AV} {q : Bool} (hx : LR s x a) (hy : LR s y b) (h : keyEqL x y = some q) : keyEq a b = some q := by
  unfold keyEqL at h
  split at h
  · cases hx.int_inv; cases hy.int_inv; exact h
  · cases h
omit [Glo] in
theorem findM_ok {k : LV} {k' : AV} (hk : LR s k k') : ∀ {es : List LV} {es' : List AV} (i : Nat) {r : Option (Nat × LV)},LRs s es es' → findML k es i = some r →
    (r = none ∧ findM k' es' i = some none) ∨ ∃ j v v',r = some (j,v) ∧ findM k' es' i = some (some (j,v')) ∧ LR s v v'
  | [],_,i,r,.nil,h => by simp only [findML,Option.some.injEq] at h; exact .inl ⟨h.symm,rfl⟩
  | [_],_,i,r,.cons _ .nil,h => by simp [findML] at h
  | x :: v :: t,_,i,r,.cons h1 (.cons h2 h3),h => by
    simp only [findML] at h
    split at h
    · rename_i hq
      simp only [Option.some.injEq] at h
      subst h
      exact .inr ⟨_,_,_,rfl,by simp only [findM,keyEq_ok hk h1 hq],h2⟩
    · rename_i hq
      rcases findM_ok hk (i + 2) h3 h with ⟨c1,c2⟩ | ⟨j,y,y',c1,c2,c3⟩
      · exact .inl ⟨c1,by simp only [findM,keyEq_ok hk h1 hq,c2]⟩
      · exact .inr ⟨j,y,y',c1,by simp only [findM,keyEq_ok hk h1 hq,c2],c3⟩
    · cases h
omit [Glo] in
theorem LRs.set : ∀ {l : List LV} {l' : List AV} (n : Nat) {v : LV} {v' : AV},LRs s l l' → LR s v v' → LRs s (l.set n v) (l'.set n v')
  | _,_,n,_,_,.nil,_ => by simpa using .nil
  | _,_,0,_,_,.cons _ r,h => .cons h r
  | _,_,n + 1,_,_,.cons h0 r,h => .cons h0 (r.set n h)
omit [Glo] in
theorem ents_cells {l : List AV} {es : List LV} (h : LRs s [.ents es] l) : ∃ es',l = [.ents es'] ∧ LRs s es es' := by
  cases h with
  | cons h r => cases r; cases h; exact ⟨_,rfl,‹_›⟩
theorem ents_ok (hs : Rel2 s) {x : LV} {a : AV} {es : List LV} (hx : LR s x a) (h : entsL s.lm x = some es) : ∃ es',entsOf s.am a = some es' ∧ LRs s es es' := by
  unfold entsL at h
  split at h
  · cases hx
    simp only [Option.some.injEq] at h
    subst h
    exact ⟨[],rfl,.nil⟩
  · rename_i i
    split at h
    · rename_i b hb
      split at h
      · rename_i es0 he
        simp only [Option.some.injEq] at h
        subst h
        obtain ⟨p,rfl,_,hk⟩ := hx.map_inv
        obtain rfl := hk ⟨b,hb,by rw [he]; rfl⟩
        obtain ⟨ab,h1,h2,_⟩ := hs.blk i b hb
        rw [he] at h2
        obtain ⟨es',e1,e2⟩ := ents_cells h2
        exact ⟨es',by simp only [entsOf,h1,e1],e2⟩
      · cases h
    · cases h
  · cases h
theorem look_okL (hs : Rel2 s) {ck : Bool} {z : AV} {x k v : LV} {a b : AV} (hx : LR s x a) (hk : LR s k b) (h : lookL s.lm ck (ofAV z) x k = some v) : ∃ av,lookAt s.am ck z a b = some av ∧ LR s v av := by
  unfold lookL at h
  cases hi : k.isInt
  · rw [hi] at h; cases h
  rw [hi] at h
  simp only [cond_true] at h
  unfold lookAt
  rw [hk.isInt hi]
  simp only [cond_true]
  split at h
  · rename_i es he
    obtain ⟨es',h1,h2⟩ := ents_ok hs hx he
    rw [h1]
    split at h
    · rename_i j y hf
      simp only [Option.some.injEq] at h
      subst h
      rcases findM_ok hk 0 h2 hf with ⟨c,_⟩ | ⟨j',y',v',c1,c2,c3⟩
      · cases c
      · cases c1
        refine ⟨_,by simp only [c2]; rfl,?_⟩
        cases ck
        · exact c3
        · exact .tup (.cons c3 (.cons (.bool _) .nil))
    · rename_i hf
      simp only [Option.some.injEq] at h
      subst h
      rcases findM_ok hk 0 h2 hf with ⟨_,c2⟩ | ⟨j',y',v',c1,_⟩
      · refine ⟨_,by simp only [c2]; rfl,?_⟩
        cases ck
        · exact LR.ofAV s z
        · exact .tup (.cons (LR.ofAV s z) (.cons (.bool _) .nil))
      · cases c1
    · cases h
  · cases h
theorem putM_ok (hs : Rel2 s) {x k v : LV} {a b c : AV} {lm' : LMem} (hx : LR s x a) (hk : LR s k b) (hv : LR s v c) (h : putML s.lm x k v = some lm') (slot : Option Nat) :
    ∃ am',putAt s.am a b c = some am' ∧ Done lo s slot (fun j => x = .map j) .undef lm' .undef am' := by
  unfold putML at h
  split at h
  · rename_i i
    cases hi : k.isInt
    · rw [hi] at h; cases h
    rw [hi] at h
    simp only [cond_true] at h
    split at h
    · rename_i bl hbl
      split at h
      · rename_i es he
        cases ho : bl.own
        · rw [ho] at h; cases h
        rw [ho] at h
        simp only [cond_true] at h
        obtain ⟨es',h1,h2⟩ := ents_ok hs hx (show entsL s.lm (.map i) = some es by simp only [entsL,hbl,he])
        obtain ⟨p,rfl,_,hkk⟩ := hx.map_inv
        obtain rfl := hkk ⟨bl,hbl,by rw [he]; rfl⟩
        have fin : ∀ (ns : List LV) (ns' : List AV),LRs s ns ns' → Done lo s slot (fun j => LV.map i = .map j) .undef (s.lm.set i ⟨[.ents ns],true⟩) .undef (s.am.put (s.ρ i) ⟨[.ents ns'],true⟩) := fun ns ns' hn => by
          obtain ⟨r1,r2⟩ := put_ok (lo := lo) hs hbl ho (cs := [.ents ns]) (cs' := [.ents ns']) (by rw [he]; rfl) (.cons (.ents hn) .nil)
          refine ⟨sitPut s i _ _,rfl,rfl,r1,r2,.undef _,?_,pend_put hs hbl slot⟩
          intro j bj hj hne
          exact owned_put hs hbl ho j bj hj fun e => hne (by rw [e])
        unfold putAt
        simp only [hk.isInt hi,cond_true,h1]
        split at h
        · rename_i j y hf
          simp only [Option.some.injEq] at h
          subst h
          rcases findM_ok hk 0 h2 hf with ⟨c,_⟩ | ⟨j',y',v',c1,c2,c3⟩
          · cases c
          · cases c1
            exact ⟨_,by simp only [c2],fin _ _ (h2.set _ hv)⟩
        · rename_i hf
          simp only [Option.some.injEq] at h
          subst h
          rcases findM_ok hk 0 h2 hf with ⟨_,c2⟩ | ⟨j',y',v',c1,_⟩
          · exact ⟨_,by simp only [c2],fin _ _ (h2.append (.cons hk (.cons hv .nil)))⟩
          · cases c1
        · cases h
      · cases h
    · cases h
  · cases h
theorem newM_done (hs : Rel2 s) (hlo : lo ≤ s.am.next) (slot : Option Nat) (T : Nat → Prop) : Done lo s slot T (.map s.lm.length) (s.lm ++ [⟨[.ents []],true⟩]) (.map s.am.next) (s.am.alloc ⟨[.ents []],true⟩) := by
  have hsl : SlotOk lo s none := ⟨hlo,fun r h => by cases h⟩
  obtain ⟨k1,k2⟩ := okNew (s := s) (allocIn s.am none ⟨[.ents []],true⟩).2 (allocIn s.am none ⟨[.ents []],true⟩).1 [.ents []]
  obtain ⟨t,h1,h2,h3,h4,h5,h6,h7⟩ := new_done (cs := [.ents []]) (cs' := [.ents []]) hs hsl (.cons (.ents .nil) .nil) T (v := .map s.lm.length) (av := .map s.am.next) (.map k1 fun _ => k2.symm)
  exact ⟨t,h1,h2,h3,h4,h5,h6,fun r hr h0 _ => h7 r hr h0 (by simp)⟩
omit [Glo] in
theorem foldInt_ok {f : Int → Int → Int} : ∀ {r : List LV} {r' : List AV} {x v : LV} {x' : AV},LR s x x' → LRs s r r' → foldIntL f x r = some v → ∃ v',foldInt f x' r' = some v' ∧ LR s v v'
  | [],_,x,v,x',hx,.nil,h => by
    have : x = v := by cases x <;> simpa [foldIntL] using h
    subst this
    exact ⟨x',by cases x' <;> rfl,hx⟩
  | y :: r,_,x,v,x',hx,.cons hy hr,h => by
    cases x <;> cases y <;> simp only [foldIntL,reduceCtorEq] at h
    cases hx.int_inv
    cases hy.int_inv
    simp only [foldInt]
    rename_i k a k' b
    cases hk : k == k' <;> rw [hk] at h <;> simp only [cond_true,cond_false,reduceCtorEq] at h
    exact foldInt_ok (.int _ _) hr h
end
end Go.Am
