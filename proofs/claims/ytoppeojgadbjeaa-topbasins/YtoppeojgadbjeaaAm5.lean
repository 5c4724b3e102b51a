/-
  THE ABSTRACT MACHINE, 5: the other operations that touch no memory, and all of them together.
-/
import Derived.Test.YtoppeojgadbjeaaAm4
import Derived.ChangeKeysEq
set_option linter.unusedVariables false
set_option linter.unusedSimpArgs false
namespace Go.Am
variable [Glo]
variable {P : Program} {ρ : PM} {e : Env} {a : Act}
omit [Glo] in
theorem run_part_cell {el : TypeId} {k : IntKind} (hel : P.underlying el = some (.int k)) {vs : Array Value} {i : Nat} {v : Value} (h : vs[i]? = some v) (w : World) : (part el vs i).run P w = .ok v w := by
  simp [part,isAgg,run_underlying hel,h]
theorem eqItems_ints {el : TypeId} {k : IntKind} (hel : P.underlying el = some (.int k)) (d : Nat) (vs us : Array Value) (w : World) : ∀ (xs ys : List AV) (q : Bool) (o : Nat),eqInts xs ys = some q →
    VRs ρ xs (vs.toList.drop o) → VRs ρ ys (us.toList.drop o) → (Op.eqItems (d + 1) el 1 vs us ((List.range xs.length).map (o + ·))).run P w = .ok q w
  | [],[],q,o,h,_,_ => by simp only [eqInts,Option.some.injEq] at h; subst h; simp [Op.eqItems]
  | [],_ :: _,q,o,h,_,_ => by simp [eqInts] at h
  | x :: r,[],q,o,h,_,_ => by cases x <;> simp [eqInts] at h
  | x :: r,y :: s,q,o,h,hx,hy => by
    cases x <;> cases y <;> first | (simp only [eqInts] at h; cases h; done) | skip
    rename_i k1 n1 k2 n2
    simp only [eqInts] at h
    cases hk : (k1 == k2)
    · simp [hk] at h
    · have hk' : k1 = k2 := by simpa using hk
      subst hk'
      simp only [hk,cond_true] at h
      cases hrs : eqInts r s with
      | none => simp [hrs] at h
      | some q' =>
        simp only [hrs,Option.some.injEq] at h
        subst h
        obtain ⟨u1,e1,r1⟩ := hx.get (j := 0) rfl
        obtain ⟨u2,e2,r2⟩ := hy.get (j := 0) rfl
        cases r1; cases r2
        rw [List.getElem?_drop] at e1 e2
        have hx' := hx.drop 1
        have hy' := hy.drop 1
        rw [List.drop_drop] at hx' hy'
        have ih := eqItems_ints hel d vs us w r s q' (o + 1) hrs hx' hy'
        rw [List.length_cons,List.range_succ_eq_map,List.map_cons,List.map_map]
        simp only [Op.eqItems,Sem.run_bind,Nat.mul_one]
        rw [run_part_cell hel (by simpa using e1),Result.andThen_ok,run_part_cell hel (by simpa using e2),Result.andThen_ok]
        have he : (Op.equalIn (d + 1) el (.int k1 n1) (.int k1 n2)).run P w = .ok (n1 == n2) w := by simp [Op.equalIn,run_underlying hel]
        rw [he,Result.andThen_ok]
        have hf : ((fun x => o + x) ∘ Nat.succ) = fun x => o + 1 + x := by funext x; simp; omega
        rw [hf]
        cases hq : (n1 == n2)
        · simp
        · simp [ih]
omit [Glo] in
theorem isInts_some {t : TypeId} {n : Nat} (h : isInts P t = some n) : ∃ el k,P.underlying t = some (.array n el) ∧ P.underlying el = some (.int k) ∧ sizeT P el = some 1 := by
  unfold isInts at h
  split at h
  · rename_i m el hu
    split at h
    · rename_i k hk hs
      cases h
      exact ⟨el,k,hu,hk,hs⟩
    · cases h
  · cases h
omit [Glo] in
theorem eqGuardType_ints {t el : TypeId} {n : Nat} {k : IntKind} (h1 : P.underlying t = some (.array n el)) (h2 : P.underlying el = some (.int k)) : P.eqGuardType P.depth t = false := by
  have : ∃ d,P.depth = d + 1 + 1 := ⟨2 * (P.types.size + Made.depth),rfl⟩
  obtain ⟨d,hd⟩ := this
  rw [hd]
  simp [Program.eqGuardType,h1,h2]
theorem eqa_bin {neg : Bool} {t : TypeId} {n : Nat} (h : isInts P t = some n) {xs ys : List AV} {vs us : Array Value} {q : Bool} (hx : VRs ρ xs vs.toList) (hy : VRs ρ ys us.toList)
    (hl : xs.length = n) (hl' : ys.length = n) (he : eqInts xs ys = some q) (ox oy : Operand) :
    Pure P ρ (do eqGuard (cond neg .neq .eql) t ox oy (.agg vs) (.agg us); binOp (cond neg .neq .eql) t (.agg vs) (.agg us)) (.bool (Bool.xor neg q)) := by
  intro w
  obtain ⟨el,k,hu,hk,hs⟩ := isInts_some h
  obtain ⟨i,hi,hsz⟩ := sizeT_some hs
  have heq : (Op.equal t (.agg vs) (.agg us)).run P w = .ok q w := by
    show (Op.equalIn (9998 + 1 + 1) t (.agg vs) (.agg us)).run P w = .ok q w
    generalize 9998 = d
    rw [run_equalIn_array w (d + 1) vs us hu hi]
    have hc : P.cellsOf el = 1 := by simp [Program.cellsOf,hi,hsz]
    have := eqItems_ints (P := P) (ρ := ρ) hk d vs us w xs ys q 0 he (by simpa using hx) (by simpa using hy)
    rw [hl] at this
    rw [hc]
    simpa using this
  refine ⟨_,?_,.bool _⟩
  have hg : ∀ op,(eqGuard op t ox oy (.agg vs) (.agg us)).run P w = .ok () w := by
    intro op
    unfold eqGuard
    cases op <;> simp [eqGuardType_ints hu hk,run_program]
  cases neg
  · simp only [cond_false,Sem.run_bind,hg,Result.andThen_ok]
    simp [binOp,heq]
  · simp only [cond_true,Sem.run_bind,hg,Result.andThen_ok]
    simp [binOp,heq]
omit [Glo] in
theorem nat?_int {x : AV} {n : Nat} (h : nat? x = some n) : ∃ k,x = .int k n := by
  cases x <;> simp only [nat?] at h <;> first | (cases h; done) | skip
  rename_i k z
  cases hz : decide (0 ≤ z) <;> simp [hz] at h
  have : 0 ≤ z := by simpa using hz
  exact ⟨k,by rw [← h,Int.toNat_of_nonneg this]⟩
theorem nat?_sound {x : AV} {n : Nat} {c : Value} (h : nat? x = some n) (hx : VR ρ x c) : ∃ k,c = .int k n := by
  obtain ⟨k,rfl⟩ := nat?_int h
  cases hx; exact ⟨k,rfl⟩
omit [Glo] in
theorem addr_add (b o n : Nat) : (⟨b,o,none⟩ : Addr).add n = ⟨b,o + n,none⟩ := by unfold Addr.add; split <;> simp_all
theorem idxA_slice {t el : TypeId} {n b o len cap g j : Nat} {k : IntKind} {cx : Value} (ht : P.underlying t = some (.slice el)) (hs : sizeT P el = some n)
    (hx : VR ρ (.slice b o len cap g) cx) (hj : j < len) : Pure P ρ (Instr.indexAt t cx (.int k j)) (.ptr b (o + j * n)) := by
  intro w
  have key : ∀ (p : Place) (c' : Nat),ρ b = some p → p.map = false → ∃ u,(Instr.indexAt t (.slice (some ⟨p.blk,p.off + o,none⟩) len c') (.int k j)).run P w = .ok u w ∧ VR ρ (.ptr b (o + j * n)) u := by
    intro p c' hp hk
    have hv := VR.ptr (o := o + j * n) hp hk
    refine ⟨_,?_,hv⟩
    simp [Instr.indexAt,asIntOf,run_underlying ht,hj,run_size hs,addr_add,Nat.add_assoc]
  cases hx with
  | slice hp hk => exact key _ _ hp hk
  | grow hp hk _ _ _ => exact key _ _ hp hk
  | last => omega
theorem idxA_array {t el : TypeId} {n b o len j : Nat} {k : IntKind} {cx : Value} (ht : P.underlying t = some (.array len el)) (hs : sizeT P el = some n)
    (hx : VR ρ (.ptr b o) cx) (hj : j < len) : Pure P ρ (Instr.indexAt t cx (.int k j)) (.ptr b (o + j * n)) := by
  intro w
  cases hx with
  | ptr hp hk =>
    have hv := VR.ptr (o := o + j * n) hp hk
    refine ⟨_,?_,hv⟩
    simp [Instr.indexAt,asIntOf,run_underlying ht,hj,run_size hs,addr_add,Nat.add_assoc,Instr.sureAddr]
theorem part_sound {t : TypeId} {g : Bool} {n off : Nat} {cs : List AV} {vs : Array Value} {v : AV} (hg : aggT P t = some g) (hn : sizeT P t = some n) (hv : VRs ρ cs vs.toList)
    (h : (cond g (some (.agg ((cs.drop off).take n))) cs[off]?) = some v) : Pure P ρ (part t vs off) v := by
  intro w
  cases g
  · simp only [cond_false] at h
    obtain ⟨u,hu,hr⟩ := hv.get h
    exact ⟨u,by simp [part,run_agg hg,show vs[off]? = some u by simpa using hu],hr⟩
  · simp only [cond_true,Option.some.injEq] at h
    subst h
    refine ⟨.agg (vs.extract off (off + n)),by simp [part,run_agg hg,run_size hn],.agg ?_⟩
    rw [Array.toList_extract]
    simpa [List.extract] using (hv.drop off).take n
omit [Glo] in
theorem sliceBound_ok {x : Value} {k : IntKind} {n y : Nat} (hx : x = .int k n) (h : n ≤ y) (code : BoundsCode) (w : World) : (Instr.sliceBound x y code).run P w = .ok n w := by
  subst hx
  have : (n : Int) ≤ (y : Int) := by omega
  simp [Instr.sliceBound,asIntOf,this]
omit [Glo] in
theorem sliceBound_zero (k : IntKind) (code : BoundsCode) (w : World) : (Instr.sliceBound (.int k 0) 0 code).run P w = .ok 0 w := by
  simp [Instr.sliceBound,asIntOf]
theorem optNat_sound {d n : Nat} {x : Option AV} {c : Option Value} (h : optNat? d x = some n) (hx : (x = none ∧ c = none) ∨ ∃ a v,x = some a ∧ c = some v ∧ VR ρ a v) :
    (x = none ∧ c = none ∧ n = d) ∨ ∃ k,c = some (.int k n) ∧ x.isSome = true := by
  rcases hx with ⟨rfl,rfl⟩ | ⟨a,v,rfl,rfl,hr⟩
  · simp only [optNat?,Option.some.injEq] at h; exact .inl ⟨rfl,rfl,h.symm⟩
  · simp only [optNat?] at h
    obtain ⟨k,rfl⟩ := nat?_sound h hr
    exact .inr ⟨k,rfl,rfl⟩
abbrev OptR (ρ : PM) (x : Option AV) (c : Option Value) : Prop := (x = none ∧ c = none) ∨ ∃ a v,x = some a ∧ c = some v ∧ VR ρ a v
theorem slice_sound {t el : TypeId} {n : Nat} {x v : AV} {lo hi mx : Option AV} {cx : Value} {clo chi cmx : Option Value} (ht : P.underlying t = some (.slice el)) (hs : sizeT P el = some n)
    (hx : VR ρ x cx) (hlo : OptR ρ lo clo) (hhi : OptR ρ hi chi) (hmx : OptR ρ mx cmx) (hh : ¬ (mx.isSome = true ∧ hi.isNone = true)) (h : sliceOf n x lo hi mx = some v) :
    Pure P ρ (Instr.slice t cx clo chi cmx) v := by
  intro w
  unfold sliceOf at h
  split at h
  · rename_i i o len cap g
    split at h
    · cases h
    · rename_i m hm
      split at h
      · cases h
      · rename_i hN hH
        split at h
        · cases h
        · rename_i l hL
          cases hb : (Nat.ble m cap && (Nat.ble hN m && Nat.ble l hN) && (mx.isSome || (Nat.beq g 0 || Nat.beq g n)))
          · simp [hb] at h
          · simp only [hb,cond_true,Option.some.injEq] at h
            subst h
            simp only [Bool.and_eq_true,Nat.ble_eq,Bool.or_eq_true,Nat.beq_eq] at hb
            obtain ⟨⟨hb1,hb2,hb3⟩,hb4⟩ := hb
            have bounds : ∀ c',cap ≤ c' → ∃ m',(Instr.sliceBounds true len c' clo chi cmx).run P w = .ok (l,hN,m') w ∧ (m' = m ∧ mx.isSome = true ∨ m' = c' ∧ mx = none ∧ m = cap) := by
              intro c' hc
              rcases optNat_sound hm hmx with ⟨rfl,rfl,rfl⟩ | ⟨k1,rfl,hs1⟩
              · rcases optNat_sound hH hhi with ⟨rfl,rfl,rfl⟩ | ⟨k2,rfl,hs2⟩
                · rcases optNat_sound hL hlo with ⟨rfl,rfl,rfl⟩ | ⟨k3,rfl,hs3⟩
                  · exact ⟨c',by simp [Instr.sliceBounds],.inr ⟨rfl,rfl,rfl⟩⟩
                  · exact ⟨c',by simp [Instr.sliceBounds,sliceBound_ok rfl hb3],.inr ⟨rfl,rfl,rfl⟩⟩
                · have hc2 : hN ≤ c' := by omega
                  rcases optNat_sound hL hlo with ⟨rfl,rfl,rfl⟩ | ⟨k3,rfl,hs3⟩
                  · exact ⟨c',by simp [Instr.sliceBounds,sliceBound_ok rfl hc2],.inr ⟨rfl,rfl,rfl⟩⟩
                  · exact ⟨c',by simp [Instr.sliceBounds,sliceBound_ok rfl hc2,sliceBound_ok rfl hb3],.inr ⟨rfl,rfl,rfl⟩⟩
              · have hc1 : m ≤ c' := by omega
                rcases optNat_sound hH hhi with ⟨rfl,rfl,rfl⟩ | ⟨k2,rfl,hs2⟩
                · exact absurd ⟨hs1,rfl⟩ hh
                · rcases optNat_sound hL hlo with ⟨rfl,rfl,rfl⟩ | ⟨k3,rfl,hs3⟩
                  · exact ⟨m,by simp [Instr.sliceBounds,sliceBound_ok rfl hc1,sliceBound_ok rfl hb2],.inl ⟨rfl,hs1⟩⟩
                  · exact ⟨m,by simp [Instr.sliceBounds,sliceBound_ok rfl hc1,sliceBound_ok rfl hb2,sliceBound_ok rfl hb3],.inl ⟨rfl,hs1⟩⟩
            have key : ∀ (A : Addr) (c' : Nat),cap ≤ c' → ∃ m',(m' = m ∧ mx.isSome = true ∨ m' = c' ∧ mx = none ∧ m = cap) ∧
                (Instr.slice t (.slice (some A) len c') clo chi cmx).run P w = .ok (.slice (if m' = l then some A else some (A.add (l * n))) (hN - l) (m' - l)) w := by
              intro A c' hc
              obtain ⟨m',hbr,hcase⟩ := bounds c' hc
              refine ⟨m',hcase,?_⟩
              simp only [Instr.slice,Sem.run_bind,run_underlying ht,Result.andThen_ok,hbr,run_size hs,Sem.run_pure]
              by_cases hml : m' = l <;> simp [hml]
            have shut : ∀ (p : Place) (c' : Nat),ρ i = some p → p.map = false → (g = 0 ∧ c' = cap ∨ 0 < g ∧ cap ≤ c' ∧ p.off + o + c' * g ≤ p.fin) →
                ∃ u,(Instr.slice t (.slice (some ⟨p.blk,p.off + o,none⟩) len c') clo chi cmx).run P w = .ok u w ∧ VR ρ (.slice i (o + l * n) (hN - l) (m - l) (cond mx.isSome 0 g)) u := by
              intro p c' hp hk hg
              obtain ⟨m',hcase,hrun⟩ := key ⟨p.blk,p.off + o,none⟩ c' (by omega)
              refine ⟨_,hrun,?_⟩
              by_cases hml : m' = l
              · rw [if_pos hml]
                have e1 : hN - l = 0 := by omega
                have e2 : m - l = 0 := by omega
                have e3 : m' - l = 0 := by omega
                rw [e1,e2,e3]
                exact .last
              · rw [if_neg hml,addr_add]
                rcases hcase with ⟨rfl,hs1⟩ | ⟨rfl,rfl,rfl⟩
                · simp only [hs1,cond_true]
                  have := VR.slice (o := o + l * n) (l := hN - l) (c := m' - l) hp hk
                  simpa [Nat.add_assoc] using this
                · simp only [Option.isSome_none,cond_false]
                  rcases hg with ⟨rfl,rfl⟩ | ⟨hg0,hg1,hg2⟩
                  · have := VR.slice (o := o + l * n) (l := hN - l) (c := m' - l) hp hk
                    simpa [Nat.add_assoc] using this
                  · have hgn : g = n := by simpa [show g ≠ 0 by omega] using hb4
                    subst hgn
                    have hle : l ≤ m' := by omega
                    have := VR.grow (o := o + l * g) (l := hN - l) (c := m - l) (c' := m' - l) hp hk hg0 (by omega) (by
                      have : (m' - l) * g + l * g = m' * g := by rw [← Nat.add_mul,Nat.sub_add_cancel hle]
                      omega)
                    simpa [Nat.add_assoc] using this
            cases hx with
            | slice hp hk => exact shut _ _ hp hk (.inl ⟨rfl,rfl⟩)
            | grow hp hk h1 h2 h3 => exact shut _ _ hp hk (.inr ⟨h1,h2,h3⟩)
            | last =>
              rename_i A
              obtain ⟨m',hcase,hrun⟩ := key A 0 (Nat.le_refl _)
              refine ⟨_,hrun,?_⟩
              have e0 : m' = l := by omega
              rw [if_pos e0]
              have e1 : hN - l = 0 := by omega
              have e2 : m - l = 0 := by omega
              have e3 : m' - l = 0 := by omega
              rw [e1,e2,e3]
              exact .last
  · cases hx
    split at h
    · rename_i h1 h2 h3
      cases h
      rcases optNat_sound h1 hmx with ⟨rfl,rfl,_⟩ | ⟨k1,rfl,hs1⟩ <;> rcases optNat_sound h2 hhi with ⟨rfl,rfl,_⟩ | ⟨k2,rfl,hs2⟩ <;> rcases optNat_sound h3 hlo with ⟨rfl,rfl,_⟩ | ⟨k3,rfl,hs3⟩ <;>
        first
          | exact absurd ⟨by assumption,rfl⟩ hh
          | exact ⟨.slice none 0 0,by simp [Instr.slice,run_underlying ht,Instr.sliceBounds,sliceBound_zero,run_size hs],.nilslice⟩
    · cases h
  · cases h
theorem sliceArr_sound {t el : TypeId} {len n : Nat} {x v : AV} {lo hi : Option AV} {cx : Value} {clo chi : Option Value} (ht : P.underlying t = some (.array len el)) (hs : sizeT P el = some n)
    (hx : VR ρ x cx) (hlo : OptR ρ lo clo) (hhi : OptR ρ hi chi) (h : sliceArr len n x lo hi = some v) :
    Pure P ρ (Instr.sliceAt t cx clo chi none) v := by
  intro w
  unfold sliceArr at h
  split at h
  · rename_i i o
    split at h
    · rename_i hN l hH hL
      cases hb : (Nat.ble hN len && Nat.ble l hN)
      · simp [hb] at h
      · simp only [hb,cond_true,Option.some.injEq] at h
        subst h
        simp only [Bool.and_eq_true,Nat.ble_eq] at hb
        obtain ⟨hb2,hb3⟩ := hb
        cases hx
        rename_i p hk hp
        have hbr : (Instr.sliceBounds false len len clo chi none).run P w = .ok (l,hN,len) w := by
          rcases optNat_sound hH hhi with ⟨rfl,rfl,rfl⟩ | ⟨k2,rfl,hs2⟩ <;> rcases optNat_sound hL hlo with ⟨rfl,rfl,rfl⟩ | ⟨k3,rfl,hs3⟩
          · simp [Instr.sliceBounds]
          · simp [Instr.sliceBounds,sliceBound_ok rfl hb3]
          · simp [Instr.sliceBounds,sliceBound_ok rfl hb2]
          · simp [Instr.sliceBounds,sliceBound_ok rfl hb2,sliceBound_ok rfl hb3]
        have hrun : (Instr.sliceAt t (.pointer (some ⟨p.blk,p.off + o,none⟩)) clo chi none).run P w =
            .ok (.slice (some (if len = l then (⟨p.blk,p.off + o,none⟩ : Addr) else (⟨p.blk,p.off + o,none⟩ : Addr).add (l * n))) (hN - l) (len - l)) w := by
          simp [Instr.sliceAt,run_underlying ht,Instr.sureAddr,hbr,run_size hs]
        refine ⟨_,hrun,?_⟩
        by_cases hml : len = l
        · have e1 : hN - l = 0 := by omega
          have e3 : len - l = 0 := by omega
          rw [e1,e3]
          exact .last
        · rw [if_neg hml,addr_add]
          have := VR.slice (o := o + l * n) (l := hN - l) (c := len - l) hp hk
          simpa [Nat.add_assoc] using this
    · cases h
  · cases h
theorem foldInt_max : ∀ {k : IntKind} {x : Int} {r : List AV} {s : List Value} {v : AV},foldInt (fun x y => if y > x then y else x) (.int k x) r = some v → VRs ρ r s → Pure P ρ (s.foldlM Builtin.max2 (.int k x)) v
  | k,x,[],_,v,h,.nil => fun w => by simp only [foldInt,Option.some.injEq] at h; subst h; exact ⟨_,by simp,.int _ _⟩
  | k,x,y :: r,_,v,h,.cons hy hr => fun w => by
    cases y <;> simp only [foldInt] at h <;> first | (cases h; done) | skip
    rename_i k' z
    cases hy
    cases hk : (k == k')
    · simp [hk] at h
    · simp only [hk,cond_true] at h
      obtain ⟨u,h1,h2⟩ := foldInt_max h hr w
      exact ⟨u,by simpa [List.foldlM_cons,Builtin.max2] using h1,h2⟩
theorem foldInt_min : ∀ {k : IntKind} {x : Int} {r : List AV} {s : List Value} {v : AV},foldInt (fun x y => if y < x then y else x) (.int k x) r = some v → VRs ρ r s → Pure P ρ (s.foldlM Builtin.min2 (.int k x)) v
  | k,x,[],_,v,h,.nil => fun w => by simp only [foldInt,Option.some.injEq] at h; subst h; exact ⟨_,by simp,.int _ _⟩
  | k,x,y :: r,_,v,h,.cons hy hr => fun w => by
    cases y <;> simp only [foldInt] at h <;> first | (cases h; done) | skip
    rename_i k' z
    cases hy
    cases hk : (k == k')
    · simp [hk] at h
    · simp only [hk,cond_true] at h
      obtain ⟨u,h1,h2⟩ := foldInt_min h hr w
      exact ⟨u,by simpa [List.foldlM_cons,Builtin.min2] using h1,h2⟩
theorem VRs.map_eval (hE : EnvR P ρ e a) {xs : Array Operand} {l : List Opd} (h : cOpds P xs.toList = some l) : VRs ρ (l.map (Opd.ev e)) (xs.map a.eval).toList := by
  rw [Array.toList_map]; exact cOpds_sound hE h
theorem optOpd_sound (hE : EnvR P ρ e a) {x : Option Operand} {y : Option Opd} (h : cOptOpd P x = some y) : OptR ρ (y.map (Opd.ev e)) (x.map a.eval) := by
  cases x with
  | none => simp only [cOptOpd,Option.some.injEq] at h; subst h; exact .inl ⟨rfl,rfl⟩
  | some x =>
    simp only [cOptOpd,Option.map_eq_some_iff] at h
    obtain ⟨z,hz,rfl⟩ := h
    exact .inr ⟨_,_,rfl,rfl,cOpd_sound hE hz⟩
def Gives (P : Program) (ρ : PM) (ev : Operand → Value) (o : Oper) (v : AV) : Prop := ∀ w,∃ u,(execOp ev o).run P w = .ok (.value u) w ∧ VR ρ v u
theorem Gives.of_pure {s : Sem Value} {v : AV} {o : Oper} {ev : Operand → Value} (h : Pure P ρ s v) (he : execOp ev o = (do pure (.value (← s)) : Sem Next)) : Gives P ρ ev o v := by
  intro w
  obtain ⟨u,h1,h2⟩ := h w
  exact ⟨u,by rw [he]; simp [h1],h2⟩
theorem Gives.of_run {s : Sem Value} {v : AV} {o : Oper} {ev : Operand → Value} (h : Pure P ρ s v) (he : ∀ w,(execOp ev o).run P w = (do pure (.value (← s)) : Sem Next).run P w) : Gives P ρ ev o v := by
  intro w
  obtain ⟨u,h1,h2⟩ := h w
  exact ⟨u,by rw [he]; simp [h1],h2⟩
omit [Glo] in
theorem list_one {α : Type} {l : Array α} {x : α} (h : l.toList = [x]) : l = #[x] := by cases l; simp at h; simp [h]
omit [Glo] in
theorem list_two {α : Type} {l : Array α} {x y : α} (h : l.toList = [x,y]) : l = #[x,y] := by cases l; simp at h; simp [h]
theorem cOpds_one (hE : EnvR P ρ e a) {xs : Array Operand} {x : Opd} (h : cOpds P xs.toList = some [x]) : ∃ v,xs.map a.eval = #[v] ∧ VR ρ (x.ev e) v := by
  have := VRs.map_eval hE h
  cases hq : xs.map a.eval with
  | mk l =>
    rw [hq] at this
    cases this with
    | cons h1 h2 => cases h2; exact ⟨_,rfl,h1⟩
theorem cOpds_two (hE : EnvR P ρ e a) {xs : Array Operand} {x y : Opd} (h : cOpds P xs.toList = some [x,y]) : ∃ v u,xs.map a.eval = #[v,u] ∧ VR ρ (x.ev e) v ∧ VR ρ (y.ev e) u := by
  have := VRs.map_eval hE h
  cases hq : xs.map a.eval with
  | mk l =>
    rw [hq] at this
    cases this with
    | cons h1 h2 => cases h2 with
      | cons h3 h4 => cases h4; exact ⟨_,_,rfl,h1,h3⟩
theorem sliceLen_sound {x : AV} {n : Nat} {c : Value} (h : sliceLen x = some n) (hx : VR ρ x c) : ∃ b k,c = .slice b n k := by
  cases hx <;> simp only [sliceLen] at h <;> cases h <;> exact ⟨_,_,rfl⟩
omit [Glo] in
theorem exec_builtin {o : Oper} {c : Call} {b : Builtin} (hop : o.op = .call c) (hb : c.callee = .builtin b) (s : Sem Value)
    (hs : builtin b c.argTypes o.type (c.args.map fun | .const _ => true | _ => false) (c.args.map a.eval) = (do pure (.value (← s)) : Sem Next)) :
    execOp a.eval o = (do pure (.value (← s)) : Sem Next) := by
  simp only [execOp,hop,resolve,hb]
  rw [← hs]
  rfl
set_option maxHeartbeats 1000000 in
theorem pure_op (hE : EnvR P ρ e a) (o : Oper) {aop : AOp} (hc : cOp P o.op = some aop) (hs : aop.sort = 0) {m m' : Mem} {h : List Mem} {bk : Nat} {sl : Option Nat} {v : AV}
    (he : stepOp e m h bk sl aop = some (v,m')) : m' = m ∧ Gives P ρ a.eval o v := by
  unfold cOp at hc
  split at hc
  case h_1 x hop =>
    simp only [Option.map_eq_some_iff] at hc; obtain ⟨y,hy,rfl⟩ := hc
    simp only [stepOp,Option.some.injEq,Prod.mk.injEq] at he; obtain ⟨rfl,rfl⟩ := he
    exact ⟨rfl,fun w => ⟨_,by simp only [execOp,hop]; rfl,cOpd_sound hE hy⟩⟩
  case h_2 x hop =>
    simp only [Option.map_eq_some_iff] at hc; obtain ⟨y,hy,rfl⟩ := hc
    simp only [stepOp,Option.some.injEq,Prod.mk.injEq] at he; obtain ⟨rfl,rfl⟩ := he
    exact ⟨rfl,fun w => ⟨_,by simp only [execOp,hop]; rfl,cOpd_sound hE hy⟩⟩
  case h_3 c x y hop =>
    split at hc <;> cases hc
    rename_i c' x' y' h1 h2 h3
    simp only [stepOp] at he
    have hv := cOpd_sound hE h1
    split at he
    · rename_i t ht
      simp only [Option.some.injEq,Prod.mk.injEq] at he; obtain ⟨rfl,rfl⟩ := he
      rw [ht] at hv
      refine ⟨rfl,fun w => ?_⟩
      cases hcv : a.eval c <;> rw [hcv] at hv <;> cases hv
      refine ⟨if t then a.eval x else a.eval y,by simp only [execOp,hop,hcv]; simp [asBool],?_⟩
      cases t
      · simpa using cOpd_sound hE h3
      · simpa using cOpd_sound hE h2
    · cases he
  case h_4 t hop => simp only [Option.map_eq_some_iff] at hc; obtain ⟨y,hy,rfl⟩ := hc; cases hs
  case h_5 t x hop => simp only [Option.map_eq_some_iff] at hc; obtain ⟨y,hy,rfl⟩ := hc; cases hs
  case h_6 t ps hop =>
    split at hc
    · rename_i fs hu
      split at hc
      · rename_i z l hz hl
        cases hf : (fs.toList.all fun f => (sizeT P f.type).isSome)
        · simp [hf] at hc
        · simp only [hf,cond_true,Option.some.injEq] at hc
          subst hc
          simp only [stepOp] at he
          split at he
          · rename_i r hr
            simp only [Option.some.injEq,Prod.mk.injEq] at he; obtain ⟨rfl,rfl⟩ := he
            refine ⟨rfl,.of_pure (build_sound hE hu hz hl (.inl ⟨fs,rfl,fun f hff => ?_⟩) hr) (by simp only [execOp,hop])⟩
            rw [List.all_eq_true] at hf
            exact hf f (by simpa using hff)
          · cases he
      · cases hc
    · rename_i n el hu
      split at hc
      · rename_i z l hz hl
        cases hel : (sizeT P el).isSome
        · simp [hel] at hc
        · simp only [hel,cond_true,Option.some.injEq] at hc
          subst hc
          simp only [stepOp] at he
          split at he
          · rename_i r hr
            simp only [Option.some.injEq,Prod.mk.injEq] at he; obtain ⟨rfl,rfl⟩ := he
            exact ⟨rfl,.of_pure (build_sound hE hu hz hl (.inr ⟨n,el,rfl,hel⟩) hr) (by simp only [execOp,hop])⟩
          · cases he
      · cases hc
    · cases hc
  case h_7 t n ps hop =>
    split at hc
    · split at hc
      · rename_i n' z l _ _ _
        cases hb : (Nat.ble (n * n') 16777216 && !Nat.beq n' 0) <;> simp [hb] at hc
        subst hc; cases hs
      · cases hc
    · cases hc
  case h_8 t x hop => split at hc <;> cases hc; cases hs
  case h_9 t x y hop => split at hc <;> cases hc; cases hs
  case h_10 x hop =>
    simp only [Option.map_eq_some_iff] at hc; obtain ⟨y,hy,rfl⟩ := hc
    simp only [stepOp] at he
    have hv := cOpd_sound hE hy
    split at he
    · cases he
    · cases he
    · cases he
    · rename_i n1 n2 n3
      simp only [Option.some.injEq,Prod.mk.injEq] at he; obtain ⟨rfl,rfl⟩ := he
      refine ⟨rfl,fun w => ⟨a.eval x,?_,hv⟩⟩
      simp only [execOp,hop]
      generalize hq : a.eval x = q at hv
      generalize hq2 : y.ev e = q2 at hv n1 n2 n3
      cases hv <;> first | rfl | (exact absurd rfl n1) | (exact absurd rfl n2) | (exact absurd rfl n3)
  case h_11 op t x y yt hop =>
    split at hc
    · rename_i x' y' h1 h2
      have hx := cOpd_sound hE h1
      have hy := cOpd_sound hE h2
      have pe : ∀ op',op = op' → execOp a.eval o = (do pure (.value (← (do eqGuard op' t x y (a.eval x) (a.eval y); binOp op' t (a.eval x) (a.eval y)))) : Sem Next) := by
        rintro _ rfl; simp only [execOp,hop]
      have arr : ∀ (neg : Bool) (n : Nat),isInts P t = some n → op = cond neg .neq .eql → stepOp e m h bk sl (.eqa neg n x' y') = some (v,m') → m' = m ∧ Gives P ρ a.eval o v := by
        intro neg n hn hopn he
        simp only [stepOp] at he
        split at he
        · rename_i xs ys hxs hys
          cases hl : (xs.length == n && ys.length == n)
          · simp [hl] at he
          · simp only [hl,cond_true] at he
            simp only [Bool.and_eq_true,beq_iff_eq] at hl
            split at he
            · rename_i q hq
              simp only [Option.some.injEq,Prod.mk.injEq] at he; obtain ⟨rfl,rfl⟩ := he
              rw [hxs] at hx
              rw [hys] at hy
              cases hcx : a.eval x <;> rw [hcx] at hx <;> cases hx
              cases hcy : a.eval y <;> rw [hcy] at hy <;> cases hy
              rename_i vx wx vy wy
              refine ⟨rfl,.of_pure (eqa_bin (neg := neg) hn wx wy hl.1 hl.2 hq x y) ?_⟩
              rw [← hcx,← hcy]; exact pe _ hopn
            · cases he
        · cases he
      have sls : ∀ (neg : Bool) (el : TypeId),P.underlying t = some (.slice el) → op = cond neg .neq .eql → stepOp e m h bk sl (.eqs neg x' y') = some (v,m') → m' = m ∧ Gives P ρ a.eval o v := by
        intro neg el hu hopn he
        simp only [stepOp] at he
        split at he
        · rename_i q hq
          simp only [Option.some.injEq,Prod.mk.injEq] at he; obtain ⟨rfl,rfl⟩ := he
          exact ⟨rfl,.of_pure (eqs_bin (neg := neg) x y hq hx hy hu) (pe _ hopn)⟩
        · cases he
      have bls : ∀ (neg : Bool),P.underlying t = some .bool → op = cond neg .neq .eql → stepOp e m h bk sl (.eqb neg x' y') = some (v,m') → m' = m ∧ Gives P ρ a.eval o v := by
        intro neg hu hopn he
        simp only [stepOp] at he
        split at he
        · rename_i p q hp hq
          simp only [Option.some.injEq,Prod.mk.injEq] at he; obtain ⟨rfl,rfl⟩ := he
          rw [hp] at hx
          rw [hq] at hy
          cases hcx : a.eval x <;> rw [hcx] at hx <;> cases hx
          cases hcy : a.eval y <;> rw [hcy] at hy <;> cases hy
          refine ⟨rfl,.of_pure (eqb_bin (neg := neg) (a := p) (b := q) x y hu) ?_⟩
          rw [← hcx,← hcy]; exact pe _ hopn
        · cases he
      have ins : stepOp e m h bk sl (.bin op x' y') = some (v,m') → m' = m ∧ Gives P ρ a.eval o v := by
        intro he
        simp only [stepOp] at he
        split at he
        · rename_i q hq
          simp only [Option.some.injEq,Prod.mk.injEq] at he; obtain ⟨rfl,rfl⟩ := he
          exact ⟨rfl,.of_pure (bin_sound t x y hq hx hy) (pe _ rfl)⟩
        · cases he
      split at hc
      · rename_i n hn; cases hc; exact arr false n hn rfl he
      · rename_i n hn; cases hc; exact arr true n hn rfl he
      · split at hc
        · rename_i hu _ _; cases hc; exact sls false _ hu rfl he
        · rename_i hu _ _; cases hc; exact sls true _ hu rfl he
        · rename_i hu _ _; cases hc; exact bls false hu rfl he
        · rename_i hu _ _; cases hc; exact bls true hu rfl he
        · cases hc; exact ins he
        · cases hc
    · cases hc
  case h_12 op t x hop =>
    simp only [Option.map_eq_some_iff] at hc; obtain ⟨y,hy,rfl⟩ := hc
    simp only [stepOp] at he
    split at he
    · rename_i q hq
      simp only [Option.some.injEq,Prod.mk.injEq] at he; obtain ⟨rfl,rfl⟩ := he
      exact ⟨rfl,.of_pure (un_sound hq (cOpd_sound hE hy)) (by simp only [execOp,hop])⟩
    · cases he
  case h_13 s d x hop =>
    split at hc
    · rename_i ds k h1 h2
      simp only [Option.map_eq_some_iff] at hc; obtain ⟨y,hy,rfl⟩ := hc
      simp only [stepOp] at he
      have hv := cOpd_sound hE hy
      split at he
      · rename_i k0 n hn
        simp only [Option.some.injEq,Prod.mk.injEq] at he; obtain ⟨rfl,rfl⟩ := he
        rw [hn] at hv
        cases hcx : a.eval x <;> rw [hcx] at hv <;> cases hv
        exact ⟨rfl,.of_pure (conv_sound (k0 := k0) (n := n) h1 h2) (by simp only [execOp,hop,hcx])⟩
      · cases he
    · cases hc
  case h_14 f xs ys hop =>
    split at hc
    · rename_i xs' ys' h1 h2
      cases hb : Nat.blt f 100000
      · rw [hb] at hc; cases hc
      rw [hb] at hc
      simp only [cond_true,Option.some.injEq] at hc
      subst hc
      simp only [stepOp,Option.some.injEq,Prod.mk.injEq] at he; obtain ⟨rfl,rfl⟩ := he
      refine ⟨rfl,fun w => ⟨_,by simp only [execOp,hop]; rfl,.func (by simpa using hb) (VRs.map_eval hE h1) (VRs.map_eval hE h2)⟩⟩
    · cases hc
  case h_15 t x y hop =>
    split at hc
    · split at hc
      · rename_i n b z l c _ _ _ _ _
        cases hb : Nat.beq n 0 <;> simp [hb] at hc
        subst hc; cases hs
      · cases hc
    · cases hc
  case h_16 t x lo hi mx hop =>
    split at hc
    · rename_i el hu
      split at hc
      · rename_i n x' lo' hi' mx' h1 h2 h3 h4 h5
        cases hb : (mx'.isSome && hi'.isNone) <;> simp [hb] at hc
        subst hc
        simp only [stepOp] at he
        split at he
        · rename_i q hq
          simp only [Option.some.injEq,Prod.mk.injEq] at he; obtain ⟨rfl,rfl⟩ := he
          refine ⟨rfl,.of_run (slice_sound hu h1 (cOpd_sound hE h2) (optOpd_sound hE h3) (optOpd_sound hE h4) (optOpd_sound hE h5) (by rintro ⟨b1,b2⟩; cases mx' <;> cases hi' <;> simp_all) hq) fun w => ?_⟩
          simp [execOp,hop,Instr.sliceAt,run_underlying hu]
        · cases he
      · cases hc
    · rename_i len el hu
      split at hc
      · rename_i n x' lo' hi' h1 h2 h3 h4
        cases hb : mx.isSome <;> simp [hb] at hc
        subst hc
        have hmx : mx = none := by simpa using hb
        subst hmx
        simp only [stepOp] at he
        split at he
        · rename_i q hq
          simp only [Option.some.injEq,Prod.mk.injEq] at he; obtain ⟨rfl,rfl⟩ := he
          refine ⟨rfl,.of_run (sliceArr_sound hu h1 (cOpd_sound hE h2) (optOpd_sound hE h3) (optOpd_sound hE h4) hq) fun w => ?_⟩
          simp [execOp,hop]
        · cases he
      · cases hc
    · cases hc
  case h_17 t x f hop =>
    split at hc
    · rename_i fs hu
      split at hc
      · rename_i fl hfl
        split at hc
        · rename_i n x' h1 h2
          cases hb : Nat.beq n 0 <;> simp [hb] at hc
          subst hc
          simp only [stepOp] at he
          have hv := cOpd_sound hE h2
          split at he
          · rename_i i q hq
            simp only [Option.some.injEq,Prod.mk.injEq] at he; obtain ⟨rfl,rfl⟩ := he
            rw [hq] at hv
            refine ⟨rfl,fun w => ?_⟩
            cases hcx : a.eval x <;> rw [hcx] at hv <;> cases hv
            rename_i p hk hp
            have hv' := VR.ptr (o := q + fl.offset) hp hk
            refine ⟨_,?_,hv'⟩
            have hn : n ≠ 0 := by rintro rfl; simp at hb
            simp only [execOp,hop,hcx]
            simp [Instr.fieldAt,run_underlying hu,hfl,Instr.sureAddr,fieldPlace,run_size h1,hn,addr_add,Nat.add_assoc]
          · cases he
        · cases hc
      · cases hc
    · cases hc
  case h_18 t x f hop =>
    split at hc
    · rename_i fs hu
      split at hc
      · rename_i fl hfl
        split at hc <;> cases hc
        rename_i n g x' h1 h2 h3
        simp only [stepOp] at he
        have hv := cOpd_sound hE h3
        split at he
        · rename_i cs hq
          rw [hq] at hv
          cases hcx : a.eval x <;> rw [hcx] at hv <;> cases hv
          rename_i vs hvs
          have hp : (cond g (some (.agg ((cs.drop fl.offset).take n))) cs[fl.offset]?) = some v ∧ m' = m := by
            cases g
            · simp only [cond_false] at he ⊢
              split at he
              · rename_i q hq2; simp only [Option.some.injEq,Prod.mk.injEq] at he; exact ⟨by rw [hq2,he.1],he.2.symm⟩
              · cases he
            · simp only [cond_true,Option.some.injEq,Prod.mk.injEq] at he ⊢; exact ⟨he.1,he.2.symm⟩
          refine ⟨hp.2,.of_run (s := part fl.type vs fl.offset) (part_sound h2 h1 hvs hp.1) fun w => ?_⟩
          simp [execOp,hop,hcx,Instr.field,run_underlying hu,hfl,asAgg]
        · cases he
      · cases hc
    · cases hc
  case h_19 t x i hop =>
    split at hc
    · rename_i x' i' h1 h2
      have hx := cOpd_sound hE h1
      have hi := cOpd_sound hE h2
      split at hc
      · rename_i len el hu
        simp only [Option.map_eq_some_iff] at hc; obtain ⟨n,hn,rfl⟩ := hc
        simp only [stepOp] at he
        split at he
        · cases he
        · rename_i j hj
          obtain ⟨k,hk⟩ := nat?_sound hj hi
          generalize hq : x'.ev e = q at he hx
          cases q <;> simp only [reduceCtorEq] at he
          rename_i b o'
          cases hb : Nat.blt j len <;> simp [hb] at he
          obtain ⟨rfl,rfl⟩ := he
          exact ⟨rfl,.of_pure (idxA_array (k := k) hu hn hx (by simpa using hb)) (by simp only [execOp,hop,hk])⟩
      · rename_i el hu
        simp only [Option.map_eq_some_iff] at hc; obtain ⟨n,hn,rfl⟩ := hc
        simp only [stepOp] at he
        split at he
        · cases he
        · rename_i j hj
          obtain ⟨k,hk⟩ := nat?_sound hj hi
          generalize hq : x'.ev e = q at he hx
          cases q <;> simp only [reduceCtorEq] at he
          rename_i b o' len cap g
          cases hb : Nat.blt j len <;> simp [hb] at he
          obtain ⟨rfl,rfl⟩ := he
          exact ⟨rfl,.of_pure (idxA_slice (k := k) hu hn hx (by simpa using hb)) (by simp only [execOp,hop,hk])⟩
      · cases hc
    · cases hc
  case h_20 t x i hop =>
    split at hc
    · rename_i i' h2
      have hi := cOpd_sound hE h2
      split at hc
      · rename_i len el hu
        split at hc <;> cases hc
        rename_i n g x' h3 h4 h1
        have hx := cOpd_sound hE h1
        simp only [stepOp] at he
        split at he
        · rename_i j cs hj hq
          obtain ⟨k,hk⟩ := nat?_sound hj hi
          rw [hq] at hx
          cases hcx : a.eval x <;> rw [hcx] at hx <;> cases hx
          rename_i vs hvs
          cases hb : Nat.blt j len
          · simp [hb] at he
          · simp only [hb,cond_true] at he
            have hp : (cond g (some (.agg ((cs.drop (j * n)).take n))) cs[j * n]?) = some v ∧ m' = m := by
              cases g
              · simp only [cond_false] at he ⊢
                split at he
                · rename_i q hq2; simp only [Option.some.injEq,Prod.mk.injEq] at he; exact ⟨by rw [hq2,he.1],he.2.symm⟩
                · cases he
              · simp only [cond_true,Option.some.injEq,Prod.mk.injEq] at he ⊢; exact ⟨he.1,he.2.symm⟩
            have hlt : j < len := by simpa using hb
            refine ⟨hp.2,fun w => ?_⟩
            obtain ⟨u,hu1,hu2⟩ := part_sound (P := P) h4 h3 hvs hp.1 w
            refine ⟨u,?_,hu2⟩
            simp only [execOp,hop,hcx,hk]
            simp [Instr.index,asIntOf,run_underlying hu,hlt,run_size h3,hu1]
        · cases he
      · rename_i hu
        split at hc <;> cases hc
        rename_i s
        simp only [stepOp] at he
        split at he
        · rename_i j cs hj hq
          obtain ⟨k,hk⟩ := nat?_sound hj hi
          simp only [Opd.ev,AV.agg.injEq] at hq
          subst hq
          cases hb : Nat.blt j s.size
          · simp [hb] at he
          · simp only [hb,cond_true,cond_false,Nat.mul_one] at he
            have hlt : j < s.size := by simpa using hb
            have hd : j < s.data.toList.length := by simpa using hlt
            have hget : (bytesOf s)[j]? = some (.int .u8 (Int.ofNat (s.data.toList[j]).toNat)) := by
              unfold bytesOf
              rw [List.getElem?_map,List.getElem?_eq_getElem hd]
              rfl
            rw [hget] at he
            simp only [Option.some.injEq,Prod.mk.injEq] at he
            obtain ⟨rfl,rfl⟩ := he
            refine ⟨rfl,fun w => ⟨_,?_,.int _ _⟩⟩
            have hs : s[j]? = some (s.data.toList[j]) := by
              rw [getElem?_pos s j hlt]
              simp [ByteArray.getElem_eq_getElem_data]
            have hcs : a.eval (.const (.string s)) = .string s := rfl
            simp only [execOp,hop,hcs,hk]
            simp [Instr.index,asIntOf,run_underlying hu,hs]
        · cases he
      · cases hc
    · cases hc
  case h_21 x i hop =>
    simp only [Option.map_eq_some_iff] at hc; obtain ⟨y,hy,rfl⟩ := hc
    simp only [stepOp] at he
    have hx := cOpd_sound hE hy
    split at he
    · rename_i cs hq
      split at he
      · rename_i q hq2
        simp only [Option.some.injEq,Prod.mk.injEq] at he; obtain ⟨rfl,rfl⟩ := he
        rw [hq] at hx
        refine ⟨rfl,fun w => ?_⟩
        cases hcx : a.eval x <;> rw [hcx] at hx <;> cases hx
        rename_i vs hvs
        obtain ⟨u,hu,hr⟩ := hvs.get hq2
        refine ⟨u,?_,hr⟩
        simp only [execOp,hop,hcx]
        simp [Instr.extract,show vs[i]? = some u by simpa using hu]
      · cases he
    · cases he
  case h_22 c hop =>
    split at hc
    · rename_i xs hxs
      split at hc
      · simp only [Option.map_eq_some_iff] at hc; obtain ⟨y,hy,rfl⟩ := hc; cases hs
      · rename_i b hcb
        unfold cBuiltin at hc
        split at hc
        · rename_i t x hts
          split at hc <;> cases hc
          rename_i el hu
          simp only [stepOp] at he
          split at he
          · rename_i n hn
            simp only [Option.some.injEq,Prod.mk.injEq] at he; obtain ⟨rfl,rfl⟩ := he
            obtain ⟨cx,e1,e2⟩ := cOpds_one hE hxs
            obtain ⟨bb,kk,rfl⟩ := sliceLen_sound hn e2
            refine ⟨rfl,.of_pure (s := Builtin.len_ c.argTypes o.type #[.slice bb n kk]) (fun w => ⟨_,?_,.int _ _⟩) (exec_builtin hop hcb _ (by rw [e1]; rfl))⟩
            rw [list_one hts]
            simp [Builtin.len_,run_underlying hu,goInt]
          · cases he
        · rename_i t u s x _
          cases ht : Nat.beq t u <;> simp only [ht,cond_false,cond_true] at hc
          · cases hc
          · split at hc
            · split at hc
              · rename_i n _ _ _ _ _
                cases hn : Nat.beq n 0 <;> simp [hn] at hc
                subst hc; cases hs
              · cases hc
            · cases hc
        · rename_i t u s x _
          cases ht : Nat.beq t u <;> simp only [ht,cond_false,cond_true] at hc
          · cases hc
          · split at hc
            · split at hc <;> cases hc
              cases hs
            · cases hc
        · split at hc
          · split at hc
            · rename_i n z _ _
              cases hn : Nat.beq n 1 <;> simp [hn] at hc
              subst hc; cases hs
            · rename_i n z _ _ _ _
              cases hn : Nat.beq n 0 <;> simp [hn] at hc
              subst hc; cases hs
            · cases hc
          · cases hc
        · cases hc
          simp only [stepOp] at he
          have hv := VRs.map_eval hE hxs
          split at he
          · rename_i k z r hr
            split at he
            · rename_i q hq
              simp only [Option.some.injEq,Prod.mk.injEq] at he; obtain ⟨rfl,rfl⟩ := he
              rw [hr] at hv
              refine ⟨rfl,.of_pure (s := Builtin.max_ c.argTypes o.type (c.args.map a.eval)) ?_ (exec_builtin hop hcb _ rfl)⟩
              unfold Builtin.max_
              cases hl : (c.args.map a.eval).toList <;> rw [hl] at hv <;> cases hv
              rename_i h1 h2
              cases h1
              exact foldInt_max hq h2
            · cases he
          · cases he
        · cases hc
          simp only [stepOp] at he
          have hv := VRs.map_eval hE hxs
          split at he
          · rename_i k z r hr
            split at he
            · rename_i q hq
              simp only [Option.some.injEq,Prod.mk.injEq] at he; obtain ⟨rfl,rfl⟩ := he
              rw [hr] at hv
              refine ⟨rfl,.of_pure (s := Builtin.min_ c.argTypes o.type (c.args.map a.eval)) ?_ (exec_builtin hop hcb _ rfl)⟩
              unfold Builtin.min_
              cases hl : (c.args.map a.eval).toList <;> rw [hl] at hv <;> cases hv
              rename_i h1 h2
              cases h1
              exact foldInt_min hq h2
            · cases he
          · cases he
        · cases hc
      · cases hc
    · cases hc
  case h_23 => cases hc; cases hs
  case h_24 =>
    split at hc
    · split at hc <;> cases hc
      cases hs
    · cases hc
  case h_25 =>
    split at hc <;> cases hc
    cases hs
  case h_26 => cases hc
end Go.Am
