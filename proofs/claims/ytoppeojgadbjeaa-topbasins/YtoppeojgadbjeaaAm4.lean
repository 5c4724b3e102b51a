/-
  THE ABSTRACT MACHINE, 4: what an operation of the abstract machine gives, the model's gives too: the operations that touch no memory.
-/
import Derived.Test.YtoppeojgadbjeaaAm3
set_option linter.unusedVariables false
set_option linter.unusedSimpArgs false
namespace Go.Am
variable [Glo]
structure EnvR (P : Program) (ρ : PM) (e : Env) (a : Act) : Prop where
  slot : ∀ t,VR ρ (e.at t) (a.tmps.getD t undef)
  glob : ∀ g,g < P.globals.size → ∃ p,ρ g = some p ∧ p.blk = g ∧ p.off = 0 ∧ p.map = false
theorem EnvR.mono {P : Program} {ρ ρ' : PM} {e : Env} {a : Act} (h : EnvR P ρ e a) (hle : PLe ρ ρ') : EnvR P ρ' e a :=
  ⟨fun t => (h.slot t).mono hle,fun g hg => let ⟨p,h1,h2⟩ := h.glob g hg; ⟨p,hle _ _ h1,h2⟩⟩
theorem cvS_sound (ρ : PM) {v : Value} {a : AV} (h : cvS v = some a) : VR ρ a v := by
  unfold cvS at h
  split at h <;> first | (cases h; constructor) | cases h
theorem cvL_sound (ρ : PM) : ∀ {l : List Value} {r : List AV},cvL l = some r → VRs ρ r l
  | [],r,h => by simp only [cvL,Option.some.injEq] at h; subst h; exact .nil
  | v :: l,r,h => by
    simp only [cvL] at h
    split at h
    · split at h
      · rename_i a ha _ s hs
        cases h
        exact .cons (cvS_sound ρ ha) (cvL_sound ρ hs)
      · cases h
    · cases h
theorem cv_sound (ρ : PM) {v : Value} {a : AV} (h : cv v = some a) : VR ρ a v := by
  unfold cv at h
  split at h
  · simp only [Option.map_eq_some_iff] at h; obtain ⟨l,hl,rfl⟩ := h; exact .agg (cvL_sound ρ hl)
  · simp only [Option.map_eq_some_iff] at h; obtain ⟨l,hl,rfl⟩ := h; exact .tup (cvL_sound ρ hl)
  · exact cvS_sound ρ h
variable {P : Program} {ρ : PM} {e : Env} {a : Act}
theorem cOpd_sound (hE : EnvR P ρ e a) {x : Operand} {y : Opd} (h : cOpd P x = some y) : VR ρ (y.ev e) (a.eval x) := by
  unfold cOpd at h
  split at h
  · cases h; exact hE.slot _
  · simp only [Option.map_eq_some_iff] at h; obtain ⟨l,hl,rfl⟩ := h; exact cv_sound ρ hl
  · rename_i g
    cases hb : Nat.blt g 100000
    · simp [hb] at h
    · simp only [hb,cond_true,Option.some.injEq] at h
      subst h
      exact .func (by simpa using hb) .nil .nil
  · rename_i g
    cases hb : Nat.blt g P.globals.size
    · simp [hb] at h
    · simp only [hb,cond_true,Option.some.injEq] at h
      subst h
      obtain ⟨p,h1,h2,h3,h4⟩ := hE.glob g (by simpa using hb)
      have := VR.ptr (o := 0) h1 h4
      rw [h2,h3] at this
      exact this
theorem cOpds_sound (hE : EnvR P ρ e a) : ∀ {l : List Operand} {r : List Opd},cOpds P l = some r → VRs ρ (r.map (Opd.ev e)) (l.map a.eval)
  | [],r,h => by simp only [cOpds,Option.some.injEq] at h; subst h; exact .nil
  | v :: l,r,h => by
    simp only [cOpds] at h
    split at h
    · split at h
      · rename_i _ b hb _ s hs
        cases h
        exact .cons (cOpd_sound hE hb) (cOpds_sound hE hs)
      · cases h
    · cases h
def Pure (P : Program) (ρ : PM) (s : Sem Value) (v : AV) : Prop := ∀ w,∃ u,s.run P w = .ok u w ∧ VR ρ v u
theorem bin_sound {op : BinOp} {x y v : AV} {cx cy : Value} (t : TypeId) (ox oy : Operand) (h : aBin op x y = some v) (hx : VR ρ x cx) (hy : VR ρ y cy) :
    Pure P ρ (do eqGuard op t ox oy cx cy; binOp op t cx cy) v := by
  intro w
  cases x <;> cases y <;> first | (simp only [aBin] at h; cases h; done) | skip
  rename_i k p k' q
  cases hx; cases hy
  have hg : (eqGuard op t ox oy (.int k p) (.int k' q)).run P w = .ok () w := by
    unfold eqGuard
    cases op <;> simp
  simp only [Sem.run_bind,hg,Result.andThen_ok]
  cases op <;> simp only [aBin] at h
  case shl =>
    cases hb : decide (q < 0) <;> simp [hb] at h
    subst h
    have hb' : ¬ q < 0 := by simpa using hb
    refine ⟨_,?_,.int _ _⟩
    simp [binOp,Op.shift,hb']
  case shr =>
    cases hb : decide (q < 0) <;> simp [hb] at h
    subst h
    have hb' : ¬ q < 0 := by simpa using hb
    refine ⟨_,?_,.int _ _⟩
    simp [binOp,Op.shift,hb']
  all_goals
    cases hk : (k == k')
    · simp [hk] at h
    · have hk' : k = k' := by simpa using hk
      subst hk'
      simp only [beq_self_eq_true,cond_true] at h
      first
        | (cases h
           refine ⟨_,?_,by constructor⟩
           simp [binOp,Op.intArith,Op.intBits,Op.intCmp])
        | (cases hq : (q == 0) <;> simp [hq] at h
           subst h
           have hq' : ¬ q = 0 := by simpa using hq
           refine ⟨_,?_,by constructor⟩
           simp [binOp,Op.intDiv,hq'])
        | cases h
theorem un_sound {op : UnOp} {x v : AV} {cx : Value} (h : aUn op x = some v) (hx : VR ρ x cx) : Pure P ρ (Op.unary op cx) v := by
  intro w
  cases op <;> cases x <;> simp only [aUn] at h <;> cases h <;> cases hx
  · exact ⟨_,rfl,.int _ _⟩
  · exact ⟨_,rfl,.bool _⟩
theorem conv_sound {s d : TypeId} {k k0 : IntKind} {n : Int} {ds : TypeDesc} (hs : P.underlying s = some ds) (hd : P.underlying d = some (.int k)) :
    Pure P ρ (convert s d (.int k0 n)) (.int k (k.wrap n)) := by
  intro w
  refine ⟨_,?_,.int _ _⟩
  simp [convert,run_underlying hs,run_underlying hd,Conv.intToInt]
theorem eqs_sound {x y : AV} {q : Bool} {cx cy : Value} {t el : TypeId} (h : aEqs x y = some q) (hx : VR ρ x cx) (hy : VR ρ y cy) (ht : P.underlying t = some (.slice el)) (w : World) :
    (Op.equal t cx cy).run P w = .ok q w := by
  show (Op.equalIn (9999 + 1) t cx cy).run P w = .ok q w
  generalize 9999 = n
  unfold aEqs at h
  split at h <;> first | (cases h; done) | skip
  all_goals (cases h; cases hx <;> cases hy <;> simp [Op.equalIn,run_underlying ht])
theorem eqs_bin {neg : Bool} {x y : AV} {q : Bool} {cx cy : Value} {t el : TypeId} (ox oy : Operand) (h : aEqs x y = some q) (hx : VR ρ x cx) (hy : VR ρ y cy) (ht : P.underlying t = some (.slice el)) :
    Pure P ρ (do eqGuard (cond neg .neq .eql) t ox oy cx cy; binOp (cond neg .neq .eql) t cx cy) (.bool (Bool.xor neg q)) := by
  intro w
  have he := eqs_sound h hx hy ht w
  refine ⟨_,?_,.bool _⟩
  have hsh : ∃ a l c b m d,cx = .slice a l c ∧ cy = .slice b m d := by
    unfold aEqs at h
    split at h <;> first | (cases h; done) | (cases hx <;> cases hy <;> exact ⟨_,_,_,_,_,_,rfl,rfl⟩)
  obtain ⟨a,l,c,b,m,d,rfl,rfl⟩ := hsh
  cases neg <;> simp [eqGuard,binOp,he]
theorem eqb_bin {neg a b : Bool} {t : TypeId} (ox oy : Operand) (ht : P.underlying t = some .bool) :
    Pure P ρ (do eqGuard (cond neg .neq .eql) t ox oy (.bool a) (.bool b); binOp (cond neg .neq .eql) t (.bool a) (.bool b)) (.bool (Bool.xor neg (a == b))) := by
  intro w
  refine ⟨_,?_,.bool _⟩
  have he : (Op.equal t (.bool a) (.bool b)).run P w = .ok (a == b) w := by
    show (Op.equalIn (9999 + 1) t (.bool a) (.bool b)).run P w = .ok (a == b) w
    generalize 9999 = n
    simp [Op.equalIn,run_underlying ht]
  cases neg <;> simp [eqGuard,binOp,he]
omit [Glo] in
theorem sizeT_some {t : TypeId} {n : Nat} (h : sizeT P t = some n) : ∃ i,P.info? t = some i ∧ i.size = n := by
  unfold sizeT at h
  simpa [Option.map_eq_some_iff] using h
omit [Glo] in
theorem run_size {t : TypeId} {n : Nat} (h : sizeT P t = some n) (w : World) : (sizeOf t).run P w = .ok n w := by
  obtain ⟨i,hi,rfl⟩ := sizeT_some h
  simp [sizeOf,typeInfo,hi]
omit [Glo] in
theorem run_agg {t : TypeId} {g : Bool} (h : aggT P t = some g) (w : World) : (isAgg t).run P w = .ok g w := by
  unfold aggT at h
  split at h
  · cases h; rename_i hu; simp [isAgg,run_underlying hu]
  · cases h; rename_i hu; simp [isAgg,run_underlying hu]
  · rename_i d _ _ hu
    cases h
    rename_i n1 n2
    cases d <;> first | (simp [isAgg,run_underlying hu]; done) | exact absurd rfl (n1 _) | exact absurd rfl (n2 _ _)
  · cases h
theorem zeroT_some {t : TypeId} {z : List AV} (h : zeroT P t = some z) : ∃ i v,P.info? t = some i ∧ i.zero = some v ∧ VRs ρ z v.cells.toList ∧ z.length = i.size := by
  unfold zeroT at h
  split at h
  · rename_i i hi
    split at h
    · rename_i v hv
      split at h
      · rename_i l hl
        cases hb : Nat.beq l.length i.size <;> simp [hb] at h
        subst h
        exact ⟨i,v,hi,hv,cvL_sound ρ hl,by simpa using hb⟩
      · cases h
    · cases h
  · cases h
omit [Glo] in
theorem foldl_set (off : Nat) : ∀ (vs : List Value) (k : Nat) (cs : Array Value),off + k + vs.length ≤ cs.size →
    ((vs.zipIdx k).foldl (fun (cs : Array Value) (x : Value × Nat) => cs.setIfInBounds (off + x.2) x.1) cs).toList = cs.toList.take (off + k) ++ vs ++ cs.toList.drop (off + k + vs.length)
  | [],k,cs,h => by simp
  | v :: r,k,cs,h => by
    simp only [List.zipIdx_cons,List.foldl_cons]
    rw [foldl_set off r (k + 1) (cs.setIfInBounds (off + k) v) (by simp at h ⊢; omega)]
    have := list_seg_step cs.toList (off + k) v r (by simp at h ⊢; omega)
    simpa [Array.toList_setIfInBounds,Nat.add_assoc] using this
theorem VRs.splice {x y : List AV} {u v : List Value} (h : VRs ρ x u) (o : Nat) (k : VRs ρ y v) : VRs ρ (splice x o y) (u.take o ++ v ++ u.drop (o + v.length)) := by
  unfold Go.Am.splice
  rw [k.length]
  exact ((h.take o).append k).append (h.drop _)
theorem fill_sound (hE : EnvR P ρ e a) {d : TypeDesc} {place : Nat → Option (Nat × Nat)} : ∀ {ps : List (Nat × Operand)} {l : List (Nat × Nat × Opd)} {cs r : List AV} {ccs : Array Value},
    cParts P d ps = some l → (∀ i p,placeOf P d i = some p → place i = some p) → VRs ρ cs ccs.toList → fill cs (l.map fun p => (p.1,p.2.1,p.2.2.ev e)) = some r →
    ∃ rr,Instr.fill place ccs (ps.map fun p => (p.1,a.eval p.2)) = some rr ∧ VRs ρ r rr.toList
  | [],l,cs,r,ccs,hc,hp,hv,hf => by
    simp only [cParts,Option.some.injEq] at hc; subst hc
    simp only [List.map_nil,fill,Option.some.injEq] at hf; subst hf
    exact ⟨ccs,rfl,hv⟩
  | (i, x) :: ps,l,cs,r,ccs,hc,hp,hv,hf => by
    simp only [cParts] at hc
    split at hc
    · rename_i o n y s h1 h2 h3
      cases hc
      simp only [List.map_cons,fill] at hf
      cases hb : ((y.ev e).cells.length == n && Nat.ble (o + n) cs.length)
      · simp [hb] at hf
      · simp only [hb,cond_true] at hf
        simp only [Bool.and_eq_true,beq_iff_eq,Nat.ble_eq] at hb
        have hx := (cOpd_sound hE h2).cells
        have hl := hx.length
        have hl2 := hv.length
        have hfold := foldl_set o (a.eval x).cells.toList 0 ccs (by simp at hl hl2 ⊢; omega)
        simp only [Nat.add_zero] at hfold
        obtain ⟨rr,e1,e2⟩ := fill_sound hE (ps := ps) (ccs := ((a.eval x).cells.zipIdx.foldl (fun (cs : Array Value) (x : Value × Nat) => cs.setIfInBounds (o + x.2) x.1) ccs)) h3 hp (by
          rw [← Array.foldl_toList,Array.toList_zipIdx,hfold]
          exact hv.splice o hx) hf
        refine ⟨rr,?_,e2⟩
        simp only [List.map_cons,Instr.fill,hp i _ h1]
        rw [if_neg (by simp at hl hl2 ⊢; omega)]
        exact e1
    · cases hc
omit [Glo] in
theorem run_mapM_list {α β : Type} (g : α → Sem β) (f : α → β) (w : World) : ∀ (l : List α),(∀ x ∈ l,(g x).run P w = .ok (f x) w) → (l.mapM g).run P w = .ok (l.map f) w
  | [],_ => by simp
  | x :: r,h => by
    have ih := run_mapM_list g f w r (fun y hy => h y (by simp [hy]))
    simp [List.mapM_cons,h x (by simp),ih]
omit [Glo] in
theorem run_mapM {α β : Type} (g : α → Sem β) (f : α → β) (w : World) (l : Array α) (h : ∀ x ∈ l,(g x).run P w = .ok (f x) w) : (l.mapM g).run P w = .ok (l.map f) w := by
  rw [Array.mapM_eq_mapM_toList]
  have := run_mapM_list (P := P) g f w l.toList (fun x hx => h x (by simpa using hx))
  rw [map_eq_pure_bind]
  simp only [Sem.run_bind,this,Result.andThen_ok,Sem.run_pure]
  congr 1
  apply Array.ext'
  simp
theorem build_sound (hE : EnvR P ρ e a) {t : TypeId} {z r : List AV} {ps : Array (Nat × Operand)} {l : List (Nat × Nat × Opd)} {d : TypeDesc}
    (hd : P.underlying t = some d) (hz : zeroT P t = some z) (hl : cParts P d ps.toList = some l)
    (hk : (∃ fs,d = .struct fs ∧ ∀ f ∈ fs,(sizeT P f.type).isSome = true) ∨ (∃ n el,d = .array n el ∧ (sizeT P el).isSome = true))
    (hf : fill z (l.map fun p => (p.1,p.2.1,p.2.2.ev e)) = some r) :
    Pure P ρ (Instr.build t (ps.map fun p => (p.1,a.eval p.2))) (.agg r) := by
  intro w
  obtain ⟨i,v,hi,hv,hzv,_⟩ := zeroT_some (ρ := ρ) hz
  rcases hk with ⟨fs,rfl,hfs⟩ | ⟨n,el,rfl,hel⟩
  · have hm := run_mapM (P := P) (fun f : Field => do pure (f.offset,← sizeOf f.type)) (fun f => (f.offset,(sizeT P f.type).getD 0)) w fs (fun f hf' => by
      obtain ⟨n,hn⟩ := Option.isSome_iff_exists.1 (hfs f hf')
      simp [run_size hn,hn])
    obtain ⟨rr,e1,e2⟩ := fill_sound hE (place := fun i => (fs.map fun f => (f.offset,(sizeT P f.type).getD 0))[i]?) hl (fun i p hp => by
      simp only [placeOf] at hp
      split at hp
      · rename_i f hff
        split at hp
        · rename_i n hn
          cases hp
          simp [hff,hn]
        · cases hp
      · cases hp) hzv hf
    refine ⟨.agg rr,?_,.agg e2⟩
    simp only [Instr.build,zeroValue,typeInfo,Sem.run_bind,run_program,hi,hv,Result.andThen_ok,Sem.run_pure,run_underlying hd,hm,Array.toList_map,e1]
  · obtain ⟨n',hn⟩ := Option.isSome_iff_exists.1 hel
    obtain ⟨rr,e1,e2⟩ := fill_sound hE (place := fun i => some (i * n',n')) hl (fun i p hp => by
      simp only [placeOf,hn] at hp
      exact hp) hzv hf
    refine ⟨.agg rr,?_,.agg e2⟩
    simp only [Instr.build,zeroValue,typeInfo,Sem.run_bind,run_program,hi,hv,Result.andThen_ok,Sem.run_pure,run_underlying hd,run_size hn,Array.toList_map,e1]
end Go.Am
