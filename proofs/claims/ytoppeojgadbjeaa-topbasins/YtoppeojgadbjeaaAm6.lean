/-
  THE ABSTRACT MACHINE, 6: the operations that read, make and write memory.
-/
import Derived.Test.YtoppeojgadbjeaaAm5
import Derived.IntWalk
set_option linter.unusedVariables false
set_option linter.unusedSimpArgs false
namespace Go.Am
variable [Glo]
variable {P : Program} {ρ : PM} {e : Env} {a : Act}
theorem CellsAt.list {w : World} {cs : List AV} {p : Place} (h : CellsAt ρ w cs p) : ∀ (n k : Nat),k + n ≤ cs.length →
    ∃ vs : List Value,vs.length = n ∧ VRs ρ ((cs.drop k).take n) vs ∧ ∀ j v,vs[j]? = some v → w.cell? ⟨p.blk,p.off + k + j,none⟩ = some v
  | 0,k,_ => ⟨[],rfl,by simpa using .nil,fun j v hj => by simp at hj⟩
  | n + 1,k,hk => by
    obtain ⟨vs,h1,h2,h3⟩ := CellsAt.list h n (k + 1) (by omega)
    have hlt : k < cs.length := by omega
    obtain ⟨v,hv,hr⟩ := h.out k cs[k] (List.getElem?_eq_getElem hlt)
    refine ⟨v :: vs,by simp [h1],?_,fun j u hj => ?_⟩
    · rw [List.drop_eq_getElem_cons hlt,List.take_succ_cons]
      exact .cons hr h2
    · cases j with
      | zero => simp at hj; subst hj; simpa using hv
      | succ j => have := h3 j u (by simpa using hj); rw [show p.off + k + (j + 1) = p.off + (k + 1) + j by omega]; exact this
theorem load_sound {m : Mem} {w : World} {t : TypeId} {g : Bool} {n : Nat} {x v : AV} {cx : Value} (hR : Rel ρ m w) (hg : aggT P t = some g) (hn : sizeT P t = some n) (hx : VR ρ x cx)
    (h : loadAt m g n x = some v) : ∃ u,(Instr.loadAt t cx).run P w = .ok u w ∧ VR ρ v u := by
  cases x <;> simp only [loadAt] at h <;> first | (cases h; done) | skip
  rename_i i o
  cases hx with
  | ptr hp hk =>
    rename_i p
    split at h
    · rename_i b hb
      obtain ⟨q,hq,hr⟩ := hR.blk i b hb
      rw [hp] at hq; cases hq
      cases g
      · simp only [cond_false] at h
        obtain ⟨u,hu,hv⟩ := (hr.cells hk).out o v h
        exact ⟨u,by simp [Instr.loadAt,Instr.sureAddr,loadVar,run_agg hg,run_load,hu],hv⟩
      · simp only [cond_true] at h
        cases hb' : Nat.ble (o + n) b.cells.length
        · simp [hb'] at h
        · simp only [hb',cond_true,Option.some.injEq] at h
          subst h
          obtain ⟨vs,h1,h2,h3⟩ := (hr.cells hk).list n o (by simpa using hb')
          have hl := run_loadCells_list (P := P) w ⟨p.blk,p.off + o,none⟩ vs (fun j u hj => by rw [addr_add]; exact h3 j u hj)
          rw [h1] at hl
          exact ⟨.agg vs.toArray,by simp [Instr.loadAt,Instr.sureAddr,loadVar,run_agg hg,run_size hn,hl],.agg (by simpa using h2)⟩
    · cases h
def RowR (ρ : PM) (cs : List AV) (cur : List Value) (off : Nat) : Prop := ∀ j c,cs[j]? = some c → ∃ v,cur[off + j]? = some v ∧ VR ρ c v
theorem RowR.of_cells {w : World} {cs : List AV} {p : Place} {cur : Array Value} {ty : TypeId} {fr : Nat × Nat} (h : CellsAt ρ w cs p) (hh : w.heap[p.blk]? = some (.cells cur ty fr)) : RowR ρ cs cur.toList p.off := by
  intro j c hc
  obtain ⟨v,hv,hr⟩ := h.out j c hc
  rw [cell_of_row w _ _ cur ty fr hh] at hv
  exact ⟨v,by simpa using hv,hr⟩
theorem RowR.splice {cs xs : List AV} {cur vs : List Value} {off o : Nat} (h : RowR ρ cs cur off) (hx : VRs ρ xs vs) (hfit : o + xs.length ≤ cs.length) (hcur : off + cs.length ≤ cur.length) :
    RowR ρ (splice cs o xs) (cur.take (off + o) ++ vs ++ cur.drop (off + o + vs.length)) off := by
  intro j c hc
  have hl := hx.length
  unfold Go.Am.splice at hc
  rw [List.append_assoc] at hc ⊢
  by_cases h1 : j < o
  · rw [List.getElem?_append_left (by simp; omega),List.getElem?_take,if_pos h1] at hc
    obtain ⟨v,hv,hr⟩ := h j c hc
    refine ⟨v,?_,hr⟩
    rw [List.getElem?_append_left (by simp; omega),List.getElem?_take,if_pos (by omega)]
    exact hv
  · have ho : (cs.take o).length = o := by simp; omega
    have ho' : (cur.take (off + o)).length = off + o := by simp; omega
    rw [List.getElem?_append_right (by omega),ho] at hc
    rw [List.getElem?_append_right (by omega),ho',show off + j - (off + o) = j - o by omega]
    by_cases h2 : j - o < xs.length
    · rw [List.getElem?_append_left h2] at hc
      obtain ⟨v,hv,hr⟩ := hx.get hc
      exact ⟨v,by rw [List.getElem?_append_left (by omega)]; exact hv,hr⟩
    · rw [List.getElem?_append_right (by omega),List.getElem?_drop] at hc
      obtain ⟨v,hv,hr⟩ := h _ c hc
      refine ⟨v,?_,hr⟩
      rw [List.getElem?_append_right (by omega),List.getElem?_drop]
      rw [← hv]
      congr 1
      omega
omit [Glo] in
theorem splice_length {cs xs : List AV} {o : Nat} (h : o + xs.length ≤ cs.length) : (splice cs o xs).length = cs.length := by
  unfold Go.Am.splice; simp; omega
theorem write_sound {m : Mem} {w : World} {i o : Nat} {b : Blk} {p : Place} {xs : List AV} {vs : List Value} (hR : Rel ρ m w) (hb : m.look i = some b) (ho : b.own = true) (hp : ρ i = some p) (hk : p.map = false)
    (hx : VRs ρ xs vs) (hfit : o + xs.length ≤ b.cells.length) (h1 : xs.all AV.scalar = true) :
    ∃ w',(storeCells ⟨p.blk,p.off + o,none⟩ vs).run P w = .ok () w' ∧ Stp ρ m w ρ (m.put i ⟨splice b.cells o xs,true⟩) w' := by
  obtain ⟨q,hq,hr⟩ := hR.blk i b hb
  rw [hp] at hq; cases hq
  obtain ⟨cur,ty,hh,hf1,hf2⟩ := hr.own hk ho
  have hl := hx.length
  have hst := run_storeCells_at P p.blk (p.off + o) ty vs 0 cur w hh (by omega) (hx.scalar h1)
  simp only [Nat.add_zero] at hst
  refine ⟨_,hst,Stp.write hR hb ho hp hk hh ?_ (splice_length hfit) ?_⟩
  · simp; omega
  · have := (RowR.of_cells (hr.cells hk) hh).splice (o := o) hx hfit (by simp; omega)
    intro j c hc
    obtain ⟨v,hv,hr'⟩ := this j c hc
    exact ⟨v,by simpa using hv,hr'⟩
theorem Stp.putSame {m : Mem} {w : World} {i o : Nat} {b : Blk} (hR : Rel ρ m w) (hb : m.look i = some b) (ho : b.own = true) : Stp ρ m w ρ (m.put i ⟨splice b.cells o [],true⟩) w := by
  obtain ⟨q,hq,hr⟩ := hR.blk i b hb
  have e : splice b.cells o [] = b.cells := by simp [Go.Am.splice]
  rw [e]
  refine Stp.writeB hR hb ho hq rfl (fun _ _ => rfl) rfl rfl rfl ⟨hr.cells,fun hk _ => hr.own hk ho,fun j r hk hl hu => ?_,fun hk hl hu => ?_⟩
  · obtain ⟨q,st,pd,h1,_,h3,h4⟩ := hr.loop j r hk hl (.inl ho)
    exact ⟨q,st,pd,h1,rfl,h3,h4⟩
  · obtain ⟨es,en,c,h1,h2,h3,h4⟩ := hr.map hk hl (.inl ho)
    exact ⟨es,en,c,h1,rfl,h3,h4⟩
theorem store_sound {m m' : Mem} {w : World} {t : TypeId} {n : Nat} {x y : AV} {cx cy : Value} (hR : Rel ρ m w) (hn : sizeT P t = some n) (hx : VR ρ x cx) (hy : VR ρ y cy)
    (h : storeAt m n x y = some m') : ∃ w',(Instr.storeAt t cx cy).run P w = .ok () w' ∧ Stp ρ m w ρ m' w' := by
  cases x <;> simp only [storeAt] at h <;> first | (cases h; done) | skip
  rename_i i o
  cases hx with
  | ptr hp hk =>
    rename_i p
    split at h
    · rename_i b hb
      cases hc : (b.own && (y.cells.length == n && (Nat.ble (o + n) b.cells.length && y.cells.all AV.scalar)))
      · simp [hc] at h
      · simp only [hc,cond_true,Option.some.injEq] at h
        subst h
        simp only [Bool.and_eq_true,beq_iff_eq,Nat.ble_eq] at hc
        obtain ⟨h1,h2,h3,h4⟩ := hc
        have hl := hy.cells.length
        obtain ⟨w',hw1,hw2⟩ := write_sound (P := P) (o := o) hR hb h1 hp hk hy.cells (by omega) h4
        refine ⟨w',?_,hw2⟩
        have hsz : cy.cells.size = n := by simpa [h2] using hl.symm
        simp [Instr.storeAt,Instr.sureAddr,storeVar,run_size hn,hsz,hw1]
    · cases h
theorem zeros_sound {z : List AV} {vz : List Value} (hz : VRs ρ z vz) (N : Nat) (h0 : z ≠ []) : VRs ρ (zeros z N) ((List.range N).map fun i => vz.toArray[i % vz.toArray.size]!) := by
  refine VRs.of_get (by simp [zeros]) fun j x u hx hu => ?_
  have hl := hz.length
  have hpos : 0 < z.length := List.length_pos_iff.2 h0
  simp only [zeros,List.getElem?_map,Option.map_eq_some_iff] at hx hu
  obtain ⟨j1,hj1,rfl⟩ := hx
  obtain ⟨j2,hj2,rfl⟩ := hu
  rw [hj1] at hj2; cases hj2
  have hm : j1 % z.length < z.length := Nat.mod_lt _ hpos
  obtain ⟨u,hu,hr⟩ := hz.get (j := j1 % z.length) (x := z[j1 % z.length]) (List.getElem?_eq_getElem hm)
  have e1 : z.getD (j1 % z.length) .undef = z[j1 % z.length] := by simp [List.getD,hm]
  have e2 : vz.toArray[j1 % vz.toArray.size]! = u := by
    simp only [List.size_toArray,← hl]
    rw [getElem!_def]
    simp [hu]
  rw [e1,e2]
  exact hr
structure Makes (P : Program) (ρ : PM) (ev : Operand → Value) (o : Oper) (cs : List AV) (v : Nat → AV) : Prop where
  out : ∃ (cur : Array Value) (ty : TypeId) (u : Nat → Value),VRs ρ cs cur.toList ∧ (∀ ρ' id B fin,ρ' id = some ⟨B,0,fin,false,none⟩ → VR ρ' (v id) (u B)) ∧
    ∀ w,(execOp ev o).run P w = .ok (.value (u w.heap.size)) (w.alloc (.cells cur ty))
theorem alloc_op (hE : EnvR P ρ e a) (o : Oper) {aop : AOp} (hc : cOp P o.op = some aop) (hs : aop.sort = 2) {m m' : Mem} {h : List Mem} {bk : Nat} {sl : Option Nat} {v : AV}
    (he : stepOp e m h bk sl aop = some (v,m')) : ∃ cs f,Makes P ρ a.eval o cs f ∧ v = f (allocIn m sl ⟨cs,true⟩).1 ∧ m' = (allocIn m sl ⟨cs,true⟩).2 := by
  have ptrs : ∀ (ρ' : PM) (id B fin : Nat),ρ' id = some ⟨B,0,fin,false,none⟩ → VR ρ' (.ptr id 0) (.pointer (some ⟨B,0,none⟩)) := fun ρ' id B fin h => VR.ptr (p := ⟨B,0,fin,false,none⟩) h rfl
  have slcs : ∀ (n k : Nat) (ρ' : PM) (id B fin : Nat),ρ' id = some ⟨B,0,fin,false,none⟩ → VR ρ' (.slice id 0 n k 0) (.slice (some ⟨B,0,none⟩) n k) := fun n k ρ' id B fin h => VR.slice (p := ⟨B,0,fin,false,none⟩) h rfl
  unfold cOp at hc
  split at hc
  case h_4 t hop =>
    simp only [Option.map_eq_some_iff] at hc; obtain ⟨z,hz,rfl⟩ := hc
    obtain ⟨i,zv,hi,hv,hzv,_⟩ := zeroT_some (ρ := ρ) hz
    simp only [stepOp,Option.some.injEq,Prod.mk.injEq] at he
    refine ⟨z,fun id => .ptr id 0,⟨zv.cells,t,fun B => .pointer (some ⟨B,0,none⟩),hzv,ptrs,fun w => ?_⟩,he.1.symm,he.2.symm⟩
    simp [execOp,hop,Instr.alloc,zeroValue,typeInfo,hi,hv,newVar,newRow]
  case h_5 t x hop =>
    simp only [Option.map_eq_some_iff] at hc; obtain ⟨y,hy,rfl⟩ := hc
    simp only [stepOp,Option.some.injEq,Prod.mk.injEq] at he
    refine ⟨(y.ev e).cells,fun id => .ptr id 0,⟨(a.eval x).cells,t,fun B => .pointer (some ⟨B,0,none⟩),(cOpd_sound hE hy).cells,ptrs,fun w => ?_⟩,he.1.symm,he.2.symm⟩
    simp [execOp,hop,Instr.box,newVar,newRow]
  case h_7 t n ps hop =>
    split at hc
    · rename_i el hu
      split at hc
      · rename_i n' z l h1 h2 h3
        cases hb : (Nat.ble (n * n') 16777216 && !Nat.beq n' 0)
        · simp [hb] at hc
        · simp only [hb,cond_true,Option.some.injEq] at hc
          subst hc
          simp only [Bool.and_eq_true,Nat.ble_eq,Bool.not_eq_true'] at hb
          have hn' : n' ≠ 0 := by rintro rfl; simp at hb
          obtain ⟨i,zv,hi,hv,hzv,hzl⟩ := zeroT_some (ρ := ρ) h2
          obtain ⟨i',hi',hsz⟩ := sizeT_some h1
          rw [hi] at hi'; cases hi'
          simp only [stepOp] at he
          split at he
          · rename_i cs hcs
            simp only [Option.some.injEq,Prod.mk.injEq] at he
            have hz0 : z ≠ [] := by rintro rfl; simp at hzl; omega
            obtain ⟨rr,e1,e2⟩ := fill_sound hE (place := fun i => some (i * n',n')) (ccs := ((List.range (n * n')).map fun i => zv.cells.toList.toArray[i % zv.cells.toList.toArray.size]!).toArray) h3 (fun i p hp => by simp only [placeOf,h1] at hp; exact hp)
              (by simpa using zeros_sound hzv (n * n') hz0) hcs
            refine ⟨cs,fun id => .slice id 0 n n 0,⟨rr,el,fun B => .slice (some ⟨B,0,none⟩) n n,e2,slcs n n,fun w => ?_⟩,he.1.symm,he.2.symm⟩
            have hN : ¬ (16777216 < n * n') := by omega
            by_cases h0 : n * n' = 0
            · rw [h0] at e1
              simp only [List.range_zero,List.map_nil] at e1
              have hr0 : Array.range 0 = #[] := rfl
              simp [execOp,hop,Instr.buildSlice,run_underlying hu,run_size h1,h0,hr0,e1,newRow]
            · simp only [Array.toArray_toList] at e1
              have e1' : Instr.fill (fun i => some (i * n',n')) (Array.map (fun x => zv.cells[x % zv.cells.size]!) (Array.range (n * n'))) (ps.toList.map fun p => (p.1,a.eval p.2)) = some rr := by
                rw [← e1]; congr 1
                apply Array.ext'
                simp
              simp [execOp,hop,Instr.buildSlice,run_underlying hu,run_size h1,hN,h0,zeroValue,typeInfo,hi,hv,e1',newRow]
          · cases he
      · cases hc
    · cases hc
  case h_15 t x y hop =>
    split at hc
    · rename_i el hu
      split at hc
      · rename_i n b z l c h1 h2 h3 h4 h5
        cases hb : Nat.beq n 0 <;> simp [hb] at hc
        subst hc
        have hn' : n ≠ 0 := by rintro rfl; simp at hb
        obtain ⟨i,zv,hi,hv,hzv,hzl⟩ := zeroT_some (ρ := ρ) h3
        obtain ⟨i',hi',hsz⟩ := sizeT_some h1
        rw [hi] at hi'; cases hi'
        have hz0 : z ≠ [] := by rintro rfl; simp at hzl; omega
        simp only [stepOp] at he
        split at he
        · rename_i j k hj hk
          cases hq : (Nat.ble j k && Nat.ble (k * b) roomMost && Nat.ble k roomMost)
          · simp [hq] at he
          · simp only [hq,cond_true,Option.some.injEq,Prod.mk.injEq] at he
            simp only [Bool.and_eq_true,Nat.ble_eq,roomMost] at hq
            obtain ⟨⟨q1,q2⟩,q3⟩ := hq
            obtain ⟨k1,e1⟩ := nat?_sound hj (cOpd_sound hE h4)
            obtain ⟨k2,e2⟩ := nat?_sound hk (cOpd_sound hE h5)
            refine ⟨zeros z (k * n),fun id => .slice id 0 j k 0,⟨((List.range (k * n)).map fun i => zv.cells.toList.toArray[i % zv.cells.toList.toArray.size]!).toArray,el,fun B => .slice (some ⟨B,0,none⟩) j k,by simpa using zeros_sound hzv (k * n) hz0,slcs j k,fun w => ?_⟩,he.1.symm,he.2.symm⟩
            have hbt : i.bytes = b := by simpa [bytesT,hi] using h2
            have w1 : IntKind.i64.wrap (j : Int) = j := IntWalk.i64_in _ (by omega)
            have w2 : IntKind.i64.wrap (k : Int) = k := IntWalk.i64_in _ (by omega)
            have t1 : ¬ ((k : Int) < 0) := by omega
            have t2 : ¬ ((b : Int) * (k : Int) > 281474976710656) := by
              have : ((k * b : Nat) : Int) ≤ 140737488355328 := by omega
              rw [Int.natCast_mul,Int.mul_comm] at this
              omega
            have t3 : ¬ ((j : Int) < 0) := by omega
            have t4 : ¬ ((j : Int) > (k : Int)) := by omega
            have t5 : ¬ (k * b > roomBytes) := by simp [roomBytes]; omega
            have t6 : ¬ ((k : Int) < (j : Int)) := by omega
            have t7 : ¬ (281474976710656 < (b : Int) * (k : Int)) := by omega
            have t8 : ¬ (roomBytes < k * b) := by omega
            simp only [execOp,hop,Instr.makeSlice,Sem.run_bind,run_underlying hu,Result.andThen_ok,e1,e2,asInt,asIntOf,Sem.run_pure,run_typeInfo w hi,hbt,w1,w2,run_size h1]
            simp [t1,t3,t6,t7,t8,askRoom,run_size h1,zeroValue,typeInfo,hi,hv,newRow,hn']
            split
            · rename_i h0
              have hr0 : Array.range 0 = #[] := by apply Array.ext'; simp
              rw [h0,hr0]; simp
            · congr 3
              apply Array.ext'
              simp
        · cases he
      · cases hc
    · cases hc
  case h_22 c hop =>
    exfalso
    split at hc
    · split at hc
      · simp only [Option.map_eq_some_iff] at hc; obtain ⟨y,hy,rfl⟩ := hc; cases hs
      · unfold cBuiltin at hc
        cases aop <;> first | (cases hs; done) | skip
        all_goals (repeat' split at hc)
        all_goals first | (cases hc; done) | (simp [Bool.cond_eq_ite] at hc; done) | (rename_i t u _ _ _; cases ht : Nat.beq t u <;> simp only [ht,cond_false,cond_true] at hc <;> (repeat' split at hc) <;> first | (cases hc; done) | (simp [Bool.cond_eq_ite] at hc; done))
      · cases hc
    · cases hc
  all_goals
    exfalso
    cases aop <;> first | (cases hs; done) | skip
    all_goals (repeat' split at hc)
    all_goals first | (cases hc; done) | (simp [Option.map_eq_some_iff,Bool.cond_eq_ite] at hc; done)
end Go.Am
