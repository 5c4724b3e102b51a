/-
  THE ABSTRACT MACHINE, 8: slots, guards, writes, calls; a region in the order of the text.
-/
import Derived.Test.YtoppeojgadbjeaaAm7
import Derived.MapKept
set_option linter.unusedVariables false
set_option linter.unusedSimpArgs false
namespace Go.Am
variable [Glo]
variable {P : Program} {ρ : PM} {e : Env} {a : Act}
theorem copy_sound {m m' : Mem} {w : World} {t el ty : TypeId} {size : Nat} {d s v : AV} {cd cs : Value} (hR : Rel ρ m w) (ht : P.underlying t = some (.slice el))
    (hsz : sizeT P el = some size) (hd : VR ρ d cd) (hs : VR ρ s cs) (h : copyAt m size d s = some (v,m')) :
    ∃ u w',(Builtin.copy_ #[t,t] ty #[cd,cs]).run P w = .ok u w' ∧ VR ρ v u ∧ Stp ρ m w ρ m' w' := by
  unfold copyAt at h
  split at h
  · rename_i news k n hn hk hnl
    obtain ⟨vn,cn⟩ := sliceCells_sound hR hs hn
    obtain ⟨i,hi,hisz⟩ := sizeT_some hsz
    have hf : ∀ q,q ≤ k → (Builtin.firstCells size q cs).run P w = .ok (vn.take (q * size)).toArray w := by
      intro q hq
      cases cn with
      | nil => simpa using run_firstCells_none w size q 0 0
      | some hl hv hc =>
        simp only [sliceLen,Option.some.injEq] at hk
        subst hk
        refine run_firstCells_some (P := P) w size q _ _ _ (vn.take (q * size)) ?_ fun j v hj => ?_
        · rw [List.length_take,hl]; exact Nat.min_eq_left (Nat.mul_le_mul_right _ hq)
        · rw [List.getElem?_take] at hj
          split at hj
          · exact hc j v hj
          · cases hj
    have hlen : (Builtin.lenOf cs).run P w = .ok k w := by
      cases cn with
      | nil => simp only [sliceLen,Option.some.injEq] at hk; subst hk; rfl
      | some hl hv hc => simp only [sliceLen,Option.some.injEq] at hk; subst hk; rfl
    have hvr : VRs ρ news vn := by
      cases cn with
      | nil => exact .nil
      | some hl hv hc => exact hv
    split at h
    · simp only [Option.some.injEq,Prod.mk.injEq] at h
      obtain ⟨rfl,rfl⟩ := h
      cases hd
      have h0 := hf 0 (Nat.zero_le _)
      refine ⟨.int .i64 0,w,?_,.int _ _,Stp.refl hR⟩
      simp only [Nat.zero_mul,List.take_zero] at h0
      simp [Builtin.copy_,run_underlying ht,hlen,run_size hsz,h0,goInt]
    · rename_i i' o' len' cap' g'
      split at h
      · cases h
      · rename_i b hb
        simp only [sliceLen,Option.some.injEq] at hnl
        subst hnl
        cases hc : (b.own && (Nat.ble (o' + len' * size) b.cells.length && news.all AV.scalar))
        · simp [hc] at h
        · simp only [hc,cond_true,Option.some.injEq,Prod.mk.injEq] at h
          obtain ⟨rfl,rfl⟩ := h
          simp only [Bool.and_eq_true,Nat.ble_eq] at hc
          obtain ⟨h1,h2,h3⟩ := hc
          have hmin : Nat.min k len' ≤ k := Nat.min_le_left _ _
          have hf' := hf _ hmin
          have hmin2 : Nat.min k len' * size ≤ len' * size := Nat.mul_le_mul_right _ (Nat.min_le_right _ _)
          have hall : (news.take (Nat.min k len' * size)).all AV.scalar = true := by
            rw [List.all_eq_true] at h3 ⊢
            exact fun x hx => h3 x (List.mem_of_mem_take hx)
          have key : ∀ (p : Place) (c' : Nat),ρ i' = some p → p.map = false → ∃ u w',(Builtin.copy_ #[t,t] ty #[.slice (some ⟨p.blk,p.off + o',none⟩) len' c',cs]).run P w = .ok u w' ∧ VR ρ (.int .i64 (Nat.min k len')) u ∧
              Stp ρ m w ρ (m.put i' ⟨splice b.cells o' (news.take (Nat.min k len' * size)),true⟩) w' := by
            intro p c' hp hk
            obtain ⟨w',hw1,hw2⟩ := write_sound (P := P) (o := o') hR hb h1 hp hk (hvr.take (Nat.min k len' * size)) (by rw [List.length_take]; omega) hall
            refine ⟨_,w',?_,.int _ _,hw2⟩
            simp [Builtin.copy_,run_underlying ht,hlen,run_size hsz,hf',hw1,goInt]
          cases hd with
          | slice hp hk => exact key _ _ hp hk
          | grow hp hk _ _ _ => exact key _ _ hp hk
          | last =>
            have h0 : Nat.min k 0 = 0 := Nat.min_zero k
            have hf0 := hf 0 (Nat.zero_le _)
            simp only [Nat.zero_mul,List.take_zero] at hf0
            have hw2 := Stp.putSame (o := o') hR hb h1
            rw [h0]
            simp only [Nat.zero_mul,List.take_zero]
            refine ⟨_,w,?_,.int _ _,hw2⟩
            simp [Builtin.copy_,run_underlying ht,hlen,run_size hsz,hf0,goInt,storeCells]
    · cases h
  · cases h
theorem clr_sound {m m' : Mem} {w : World} {t el ty : TypeId} {z s : AV} {cs : Value} (hR : Rel ρ m w) (ht : P.underlying t = some (.slice el))
    (hsz : sizeT P el = some 1) (hz : zeroT P el = some [z]) (hs : VR ρ s cs) (h : clrAt m z s = some m') :
    ∃ u w',(Builtin.clear_ #[t] ty #[cs]).run P w = .ok u w' ∧ VR ρ .undef u ∧ Stp ρ m w ρ m' w' := by
  unfold clrAt at h
  split at h
  · cases hs
    simp only [Option.some.injEq] at h
    subst h
    exact ⟨.tuple #[],w,by simp [Builtin.clear_,run_underlying ht],.tup .nil,Stp.refl hR⟩
  · rename_i i o n cap g
    split at h
    · cases h
    · rename_i b hb
      cases hc : (b.own && (Nat.ble (o + n) b.cells.length && z.scalar))
      · simp [hc] at h
      · simp only [hc,cond_true,Option.some.injEq] at h
        subst h
        simp only [Bool.and_eq_true,Nat.ble_eq] at hc
        obtain ⟨h1,h2,h3⟩ := hc
        obtain ⟨inf,zv,hinf,hzv,hzr,_⟩ := zeroT_some (ρ := ρ) hz
        obtain ⟨u,hu,huz⟩ : ∃ u,zv.cells = #[u] ∧ VR ρ z u := by
          generalize hq : zv.cells.toList = l at hzr
          cases hzr with
          | cons hv hr =>
            cases hr
            exact ⟨_,list_one hq,hv⟩
        have hzc : (Builtin.zeroCells zv.cells n).toList = List.replicate n u := by
          rw [hu]
          apply List.ext_getElem
          · simp [Builtin.zeroCells]
          · intro j h1 h2
            simp [Builtin.zeroCells,Nat.mod_one]
        have hrep : ∀ k,VRs ρ (List.replicate k z) (List.replicate k u) := by
          intro k
          induction k with
          | zero => exact .nil
          | succ k ih => exact .cons huz ih
        have key : ∀ (p : Place) (c' : Nat),ρ i = some p → p.map = false → ∃ w',(Builtin.clear_ #[t] ty #[.slice (some ⟨p.blk,p.off + o,none⟩) n c']).run P w = .ok (.tuple #[]) w' ∧
            Stp ρ m w ρ (m.put i ⟨splice b.cells o (List.replicate n z),true⟩) w' := by
          intro p c' hp hk
          obtain ⟨w',hw1,hw2⟩ := write_sound (P := P) (o := o) hR hb h1 hp hk (hrep n) (by rw [List.length_replicate]; omega) (by rw [List.all_eq_true]; intro x hx; rw [(List.mem_replicate.1 hx).2]; exact h3)
          refine ⟨w',?_,hw2⟩
          cases n with
          | zero =>
            simp only [List.replicate_zero,storeCells,Sem.run_pure,Result.ok.injEq,true_and] at hw1
            subst hw1
            simp [Builtin.clear_,run_underlying ht]
          | succ n =>
            simp only [Builtin.clear_,List.getElem?_toArray,List.getElem?_cons_zero,Sem.run_bind,run_underlying ht,Result.andThen_ok,zeroValue,typeInfo,run_program,hinf,hzv,Sem.run_pure,hzc,hw1]
        cases hs with
        | slice hp hk =>
          obtain ⟨w',h4,h5⟩ := key _ cap hp hk
          exact ⟨_,w',h4,.tup .nil,h5⟩
        | grow hp hk _ _ _ =>
          obtain ⟨w',h4,h5⟩ := key _ _ hp hk
          exact ⟨_,w',h4,.tup .nil,h5⟩
        | last =>
          have h5 := Stp.putSame (o := o) hR hb h1
          exact ⟨.tuple #[],w,by simp [Builtin.clear_,run_underlying ht],.tup .nil,h5⟩
  · cases h
theorem zerosC_sound {z : List AV} {zc : Array Value} (hz : VRs ρ z zc.toList) (h0 : z ≠ []) (n : Nat) : VRs ρ (zeros z (n * z.length)) (Builtin.zeroCells zc n).toList := by
  have h := zeros_sound hz (n * z.length) h0
  have e : (Builtin.zeroCells zc n).toList = (List.range (n * z.length)).map fun i => zc.toList.toArray[i % zc.toList.toArray.size]! := by
    have hl : z.length = zc.size := by simpa using hz.length
    apply List.ext_getElem?
    intro j
    simp [Builtin.zeroCells,hl]
  rw [e]; exact h
theorem clrs_sound {m m' : Mem} {w : World} {t el ty : TypeId} {z : List AV} {s : AV} {cs : Value} (hR : Rel ρ m w) (ht : P.underlying t = some (.slice el))
    (hz : zeroT P el = some z) (h0 : z ≠ []) (hs : VR ρ s cs) (h : clrsAt m z s = some m') :
    ∃ u w',(Builtin.clear_ #[t] ty #[cs]).run P w = .ok u w' ∧ VR ρ .undef u ∧ Stp ρ m w ρ m' w' := by
  unfold clrsAt at h
  split at h
  · cases hs
    simp only [Option.some.injEq] at h
    subst h
    exact ⟨.tuple #[],w,by simp [Builtin.clear_,run_underlying ht],.tup .nil,Stp.refl hR⟩
  · rename_i i o n cap g
    split at h
    · cases h
    · rename_i b hb
      cases hc : (b.own && (Nat.ble (o + n * z.length) b.cells.length && z.all AV.scalar))
      · simp [hc] at h
      · simp only [hc,cond_true,Option.some.injEq] at h
        subst h
        simp only [Bool.and_eq_true,Nat.ble_eq] at hc
        obtain ⟨h1,h2,h3⟩ := hc
        obtain ⟨inf,zv,hinf,hzv,hzr,_⟩ := zeroT_some (ρ := ρ) hz
        have hrep := zerosC_sound hzr h0 n
        have hzl : (zeros z (n * z.length)).length = n * z.length := by simp [zeros]
        have hall : (zeros z (n * z.length)).all AV.scalar = true := by
          rw [List.all_eq_true]
          intro x hx
          simp only [zeros,List.mem_map,List.mem_range] at hx
          obtain ⟨j,hj,rfl⟩ := hx
          have hpos : 0 < z.length := List.length_pos_iff.2 h0
          have hm : j % z.length < z.length := Nat.mod_lt _ hpos
          have : z.getD (j % z.length) .undef = z[j % z.length] := by simp [List.getD,hm]
          rw [this]
          exact List.all_eq_true.1 h3 _ (List.getElem_mem hm)
        have key : ∀ (p : Place) (c' : Nat),ρ i = some p → p.map = false → ∃ w',(Builtin.clear_ #[t] ty #[.slice (some ⟨p.blk,p.off + o,none⟩) n c']).run P w = .ok (.tuple #[]) w' ∧
            Stp ρ m w ρ (m.put i ⟨splice b.cells o (zeros z (n * z.length)),true⟩) w' := by
          intro p c' hp hk
          obtain ⟨w',hw1,hw2⟩ := write_sound (P := P) (o := o) hR hb h1 hp hk hrep (by rw [hzl]; omega) hall
          refine ⟨w',?_,hw2⟩
          cases n with
          | zero =>
            have e0 : (Builtin.zeroCells zv.cells 0).toList = [] := by simp [Builtin.zeroCells]
            rw [e0] at hw1
            simp only [storeCells,Sem.run_pure,Result.ok.injEq,true_and] at hw1
            subst hw1
            simp [Builtin.clear_,run_underlying ht]
          | succ n =>
            simp only [Builtin.clear_,List.getElem?_toArray,List.getElem?_cons_zero,Sem.run_bind,run_underlying ht,Result.andThen_ok,zeroValue,typeInfo,run_program,hinf,hzv,Sem.run_pure,hw1]
        cases hs with
        | slice hp hk =>
          obtain ⟨w',h4,h5⟩ := key _ cap hp hk
          exact ⟨_,w',h4,.tup .nil,h5⟩
        | grow hp hk _ _ _ =>
          obtain ⟨w',h4,h5⟩ := key _ _ hp hk
          exact ⟨_,w',h4,.tup .nil,h5⟩
        | last =>
          have h5 := Stp.putSame (o := o) hR hb h1
          have e0 : zeros z (0 * z.length) = [] := by simp [zeros]
          rw [e0]
          exact ⟨.tuple #[],w,by simp [Builtin.clear_,run_underlying ht],.tup .nil,h5⟩
  · cases h
theorem keyEq_now {d : TypeDesc} {k : IntKind} (hd : d = .int k) {x y : AV} {cx cy : Value} {q : Bool} (h : keyEq x y = some q) (hx : VR ρ x cx) (hy : VR ρ y cy) : Instr.sameNow d cx cy = some q ∧ (q = true → cx = cy) := by
  subst hd
  unfold keyEq at h
  split at h
  · rename_i k1 a k2 b
    cases hx; cases hy
    cases hk : k1 == k2
    · rw [hk] at h; cases h
    · rw [hk] at h
      simp only [cond_true,Option.some.injEq] at h
      have hk' : k1 = k2 := by simpa using hk
      subst hk'
      subst h
      refine ⟨by simp [Instr.sameNow],fun e => ?_⟩
      have : a = b := by simpa using e
      rw [this]
  · cases h
theorem findM_sound (k : IntKind) {x : AV} {cx : Value} (hx : VR ρ x cx) : ∀ {es : List AV} {en : List MapEntry} (i j : Nat) {r : Option (Nat × AV)},EntR ρ es en → findM x es i = some r →
    (r = none ∧ Instr.findNow (.int k) cx en j = some none) ∨
    ∃ n y e,r = some (i + 2 * n,y) ∧ en[n]? = some e ∧ VR ρ y e.val ∧ e.key = cx ∧ Instr.findNow (.int k) cx en j = some (some (j + n,e.val))
  | _,_,i,j,r,.nil,h => by
    simp only [findM,Option.some.injEq] at h
    exact .inl ⟨h.symm,rfl⟩
  | _,_,i,j,r,.cons (x := e) hk hv hr,h => by
    simp only [findM] at h
    split at h
    · rename_i hq
      obtain ⟨h1,h2⟩ := keyEq_now (k := k) rfl hq hx hk
      simp only [Option.some.injEq] at h
      subst h
      exact .inr ⟨0,_,e,rfl,rfl,hv,(h2 rfl).symm,by simp [Instr.findNow,h1]⟩
    · rename_i hq
      obtain ⟨h1,h2⟩ := keyEq_now (k := k) rfl hq hx hk
      rcases findM_sound k hx (i + 2) (j + 1) hr h with ⟨h3,h4⟩ | ⟨n,y,e',h3,h4,h5,h6,h7⟩
      · exact .inl ⟨h3,by simp [Instr.findNow,h1,h4]⟩
      · refine .inr ⟨n + 1,y,e',?_,by simpa using h4,h5,h6,?_⟩
        · rw [h3,show i + 2 + 2 * n = i + 2 * (n + 1) by omega]
        · simp only [Instr.findNow,h1,h7]; rw [show j + 1 + n = j + (n + 1) by omega]
    · cases h
theorem EntR.set {es : List AV} {en : List MapEntry} (h : EntR ρ es en) : ∀ (n : Nat) (e : MapEntry) {v : AV} {cv : Value},en[n]? = some e → VR ρ v cv → EntR ρ (es.set (2 * n + 1) v) (en.modify n fun x => { x with key := e.key,val := cv }) := by
  induction h with
  | nil => intro n e v cv he; simp at he
  | cons hk hv hr ih =>
    intro n e v cv he hvv
    cases n with
    | zero =>
      simp only [List.getElem?_cons_zero,Option.some.injEq] at he
      subst he
      exact .cons hk hvv hr
    | succ n =>
      have e1 : 2 * (n + 1) + 1 = (2 * n + 1) + 1 + 1 := by omega
      rw [e1]
      exact .cons hk hv (ih n e (by simpa using he) hvv)
theorem EntR.push {es : List AV} {en : List MapEntry} (h : EntR ρ es en) {k v : AV} {e : MapEntry} (hk : VR ρ k e.key) (hv : VR ρ v e.val) : EntR ρ (es ++ [k,v]) (en ++ [e]) := by
  induction h with
  | nil => exact .cons hk hv .nil
  | cons h1 h2 _ ih => exact .cons h1 h2 ih
theorem isInt_sound {x : AV} {cx : Value} (h : x.isInt = true) (hx : VR ρ x cx) : ∃ k n,cx = .int k n := by
  cases x <;> first | (cases h; done) | skip
  cases hx; exact ⟨_,_,rfl⟩
theorem entsOf_sound {m : Mem} {w : World} (hR : Rel ρ m w) {x : AV} {cx : Value} {es : List AV} (h : entsOf m x = some es) (hx : VR ρ x cx) :
    (cx = .map none ∧ es = []) ∨ ∃ i p b en c,x = .map i ∧ ρ i = some p ∧ (p.map = true ∧ p.loop = none) ∧ m.look i = some b ∧ b.own = true ∧ cx = .map (some p.blk) ∧ w.heap[p.blk]? = some (.map en c) ∧ EntR ρ es en.toList := by
  unfold entsOf at h
  split at h
  · cases hx
    simp only [Option.some.injEq] at h
    exact .inl ⟨rfl,h.symm⟩
  · rename_i i
    split at h
    · rename_i b hb
      split at h
      · rename_i es' hes
        simp only [Option.some.injEq] at h
        subst h
        cases hx
        rename_i p hk hl hp
        obtain ⟨q,hq,hr⟩ := hR.blk i b hb
        rw [hp] at hq; cases hq
        obtain ⟨es2,en,c,h1,h2,h3,h4⟩ := hr.map hk hl (.inr (by rw [hes]; simp))
        rw [hes] at h1
        cases h1
        exact .inr ⟨i,p,b,en,c,rfl,hp,⟨hk,hl⟩,hb,h2,rfl,h3,h4⟩
      · cases h
    · cases h
  · cases h
omit [Glo] in
theorem mapT_some {t e : TypeId} (h : mapT P t = some e) : ∃ kt k,P.underlying t = some (.map kt e) ∧ P.underlying kt = some (.int k) := by
  unfold mapT at h
  split at h
  · rename_i kt e' hu
    split at h
    · rename_i k hk
      simp only [Option.some.injEq] at h
      subst h
      exact ⟨kt,k,hu,hk⟩
    · cases h
  · cases h
omit [Glo] in
theorem run_checkInt {kt : TypeId} {k k' : IntKind} (hk : P.underlying kt = some (.int k)) (n : Int) (b : Bool) (d : Nat) (w : World) : (Instr.checkKey b (d + 1) kt (.int k' n)).run P w = .ok () w := by
  simp [Instr.checkKey,run_underlying hk]
theorem look_sound {m : Mem} {w : World} {t et : TypeId} {ck : Bool} {z x k v : AV} {cx ckv : Value} (hR : Rel ρ m w) (ht : mapT P t = some et) (hz : zeroVT P et = some z)
    (hx : VR ρ x cx) (hk : VR ρ k ckv) (h : lookAt m ck z x k = some v) : ∃ u,(Instr.lookup t cx ckv ck).run P w = .ok u w ∧ VR ρ v u := by
  obtain ⟨kt,kk,h1,h2⟩ := mapT_some ht
  unfold lookAt at h
  cases hi : k.isInt
  · rw [hi] at h; cases h
  rw [hi] at h
  simp only [cond_true] at h
  obtain ⟨k',n',rfl⟩ := isInt_sound hi hk
  split at h
  · rename_i es hes
    obtain ⟨zi,zv,hzi,hzv,hzz⟩ : ∃ zi zv,P.info? et = some zi ∧ zi.zero = some zv ∧ VR ρ z zv := by
      unfold zeroVT at hz
      split at hz
      · rename_i zi hzi
        split at hz
        · rename_i zv hzv
          exact ⟨zi,zv,hzi,hzv,cv_sound ρ hz⟩
        · cases hz
      · cases hz
    have hzero : ∀ w,(zeroValue et).run P w = .ok zv w := fun w => by simp [zeroValue,typeInfo,hzi,hzv]
    have fin : ∀ (en : Array MapEntry),EntR ρ es en.toList → (∃ n y,(Instr.findKey kt (.int k' n') en.toList).run P w = .ok (some (n,y)) w ∧ VR ρ v (if ck then .tuple #[y,.bool true] else y)) ∨
        ((Instr.findKey kt (.int k' n') en.toList).run P w = .ok none w ∧ VR ρ v (if ck then .tuple #[zv,.bool false] else zv)) := by
      intro en hen
      split at h
      · rename_i j y hf
        rcases findM_sound kk hk 0 0 hen hf with ⟨c,_⟩ | ⟨n,y',e,h3,h4,h5,h6,h7⟩
        · cases c
        · cases h3
          simp only [Option.some.injEq] at h
          subst h
          refine .inl ⟨_,e.val,MapKept.run_findKey h2 h7,?_⟩
          cases ck
          · exact h5
          · exact .tup (.cons h5 (.cons (.bool _) .nil))
      · rename_i hf
        rcases findM_sound kk hk 0 0 hen hf with ⟨_,h7⟩ | ⟨n,y',e,h3,_⟩
        · simp only [Option.some.injEq] at h
          subst h
          refine .inr ⟨MapKept.run_findKey h2 h7,?_⟩
          cases ck
          · exact hzz
          · exact .tup (.cons hzz (.cons (.bool _) .nil))
        · cases h3
      · cases h
    rcases entsOf_sound hR hes hx with ⟨rfl,rfl⟩ | ⟨i,p,b,en,c,rfl,hp,hkp,hb,ho,rfl,hh,hen⟩
    · rcases fin #[] .nil with ⟨n,y,f1,f2⟩ | ⟨f1,f2⟩
      · exact ⟨_,by simp [Instr.lookup,run_underlying h1,run_checkInt h2,f1],f2⟩
      · exact ⟨_,by simp [Instr.lookup,run_underlying h1,run_checkInt h2,f1,hzero],f2⟩
    · rcases fin en hen with ⟨n,y,f1,f2⟩ | ⟨f1,f2⟩
      · exact ⟨_,by simp [Instr.lookup,run_underlying h1,MapKept.run_getObj_map hh,run_checkInt h2,f1],f2⟩
      · exact ⟨_,by simp [Instr.lookup,run_underlying h1,MapKept.run_getObj_map hh,run_checkInt h2,f1,hzero],f2⟩
  · cases h
theorem putM_sound {m m' : Mem} {w : World} {t et : TypeId} {x k v : AV} {cx ckv cvv : Value} (hR : Rel ρ m w) (ht : mapT P t = some et)
    (hx : VR ρ x cx) (hk : VR ρ k ckv) (hv : VR ρ v cvv) (h : putAt m x k v = some m') : ∃ w',(Instr.mapUpdate t cx ckv cvv).run P w = .ok () w' ∧ Stp ρ m w ρ m' w' := by
  obtain ⟨kt,kk,h1,h2⟩ := mapT_some ht
  unfold putAt at h
  split at h
  · rename_i i
    cases hi : k.isInt
    · rw [hi] at h; cases h
    rw [hi] at h
    simp only [cond_true] at h
    obtain ⟨k',n',rfl⟩ := isInt_sound hi hk
    split at h
    · rename_i es hes
      rcases entsOf_sound hR hes hx with ⟨rfl,rfl⟩ | ⟨i',p,b,en,c,hii,hp,hkp,hb,ho,rfl,hh,hen⟩
      · cases hx
      cases hii
      split at h
      · rename_i j y hf
        simp only [Option.some.injEq] at h
        subst h
        rcases findM_sound kk hk 0 0 hen hf with ⟨c,_⟩ | ⟨n,y',e,h3,h4,h5,h6,h7⟩
        · cases c
        · simp only [Option.some.injEq,Prod.mk.injEq,Nat.zero_add] at h3 h7
          obtain ⟨rfl,rfl⟩ := h3
          have hs := hen.set n e h4 hv
          rw [h6] at hs
          have h4' : en[n]? = some e := by simpa using h4
          have hs' : EntR ρ (es.set (2 * n + 1) v) (en.modify n fun x => { x with key := .int k' n',val := cvv }).toList := by
            rw [Array.toList_modify]; exact hs
          refine ⟨_,?_,Stp.writeM (c' := c) hR hb ho hp hkp.1 hkp.2 hh hs'⟩
          have hks := MapKept.run_keyThatStays (P := P) (w := w) (d := .int k') (k := .int k' n') rfl
          simp [Instr.mapUpdate,run_underlying h1,MapKept.run_getObj_map hh,run_checkInt h2,MapKept.run_findKey h2 h7,h4',h6,hks,MapKept.run_setObj_map _ hh]
      · rename_i hf
        simp only [Option.some.injEq] at h
        subst h
        rcases findM_sound kk hk 0 0 hen hf with ⟨_,h7⟩ | ⟨n,y',e,h3,_⟩
        · have hs' : EntR ρ (es ++ [k,v]) (en.push { key := .int k' n',val := cvv,born := c }).toList := by
            rw [Array.toList_push]; exact hen.push hk hv
          refine ⟨_,?_,Stp.writeM (c' := c + 1) hR hb ho hp hkp.1 hkp.2 hh hs'⟩
          simp [Instr.mapUpdate,run_underlying h1,MapKept.run_getObj_map hh,run_checkInt h2,MapKept.run_findKey h2 h7,MapKept.run_setObj_map _ hh]
        · cases h3
      · cases h
    · cases h
  · cases h
theorem Stp.back {ρ0 ρ1 ρ2 : PM} {m0 m m1 m2 m3 : Mem} {w0 w w2 : World} {s v : AV} (hR : Stp ρ0 m0 w0 ρ m w) (hA : Stp ρ0 m0 w0 ρ1 m1 w) (hag : ∀ j,j < m.next → ρ1 j = ρ j) (hn : m.next < m1.next) (hL : Lent ρ m ρ1 m1 s v)
    (hC : Stp ρ1 m1 w ρ2 m2 w2) (hg : giveBack m m1 m2 s v = some m3) : Stp ρ0 m0 w0 ρ2 m3 w2 := by
  have hAC := hA.trans hC
  unfold giveBack at hg
  split at hg
  · rename_i i o n c g
    split at hg
    · rename_i hi1
      split at hg
      · rename_i b bo bl bc bg
        split at hg
        · rename_i bi c1 c2 hbi hc1 hi2 hc2
          cases hq : (c2.own && (AV.beqs c2.cells c1.cells && (Nat.beq o 0 && Nat.beq (n * g) bi.cells.length)))
          · rw [hq] at hg; cases hg
          rw [hq] at hg
          simp only [cond_true,Option.some.injEq] at hg
          subst hg
          simp only [Bool.and_eq_true] at hq
          obtain ⟨hown2,heq,_⟩ := hq
          have heq := AV.beqs_eq _ _ heq
          obtain ⟨bi',p,q,news,k1,hown,hp,hpm,hqq,hqp,rfl,k2,koth⟩ := hL.out i o n c g rfl hi1 _ _ _ _ _ rfl
          rw [hbi] at k1; cases k1
          rw [hc1] at k2; cases k2
          have hin : i < m.next := hR.rel.lt hbi
          have hib : i ≠ m.next := Nat.ne_of_lt hin
          have hp1 : ρ1 i = some p := by rw [hag i hin]; exact hp
          have hp2 : ρ2 i = some p := by rw [hC.old i (by omega)]; exact hp1
          have hq2 : ρ2 m.next = some q := by rw [hC.old _ hn]; exact hqq
          have hpl := UseAt.lt hR.rel (B := p.blk) ⟨i,bi,p,hbi,.inl hown,hp,rfl⟩
          have hlook : ∀ j bj,((m2.put m.next ⟨[],false⟩).put i bi).look j = some bj → (j = i ∧ bj = bi) ∨ (j = m.next ∧ bj = ⟨[],false⟩) ∨ (j ≠ i ∧ j ≠ m.next ∧ m2.look j = some bj) := fun j bj hj => by
            rw [Mem.look_put] at hj
            by_cases e : j = i
            · rw [if_pos e] at hj; cases hj; exact .inl ⟨e,rfl⟩
            · rw [if_neg e,Mem.look_put] at hj
              by_cases e' : j = m.next
              · rw [if_pos e'] at hj; cases hj; exact .inr (.inl ⟨e',rfl⟩)
              · rw [if_neg e'] at hj; exact .inr (.inr ⟨e,e',hj⟩)
          -- in the memory before the call nobody else is at the place of the list
          have others : ∀ j bj r,m1.look j = some bj → (bj.own = true ∨ bj.cells ≠ []) → j ≠ i → j ≠ m.next → ρ1 j = some r → r.blk ≠ p.blk := fun j bj r hj hu h1 h2 hr => by
            rw [koth j h1 h2] at hj
            rw [hag j (hR.rel.lt hj)] at hr
            exact (hR.rel.apart i j bi bj p r hbi hown hp hj hu (Ne.symm h1) hr).symm
          have noUse : q.blk ≠ p.blk → ¬ UseAt ρ1 m1 p.blk := fun hne => by
            rintro ⟨j,bj,r,hj,hu,hr,e⟩
            by_cases h1 : j = i
            · subst h1; rw [hi1] at hj; cases hj; simp at hu
            · by_cases h2 : j = m.next
              · subst h2; rw [hqq] at hr; cases hr; exact hne e
              · exact others j bj r hj hu h1 h2 hr e
          have hap : ∀ j bj r,m2.look j = some bj → (bj.own = true ∨ bj.cells ≠ []) → j ≠ i → j ≠ m.next → ρ2 j = some r → p.blk ≠ r.blk := fun j bj r hj hu h1 h2 hr e => by
            by_cases hs : q.blk = p.blk
            · exact hC.rel.apart m.next j c2 bj q r hc2 hown2 hq2 hj hu (Ne.symm h2) hr (hs.trans e)
            · rcases hC.use p.blk ⟨j,bj,r,hj,hu,hr,e.symm⟩ with c | c
              · exact noUse hs c
              · omega
          have hBi : BlkRel ρ2 w2 bi p := by
            obtain ⟨p',hp',hr0⟩ := hR.rel.blk i bi hbi
            rw [hp] at hp'; cases hp'
            obtain ⟨q',hq',hr2⟩ := hC.rel.blk _ c2 hc2
            rw [hq2] at hq'; cases hq'
            by_cases hs : q.blk = p.blk
            · obtain ⟨hs1,hs2⟩ := hqp hs
              cases hqm : q.map
              case true =>
                obtain ⟨q'',hq'',hr1⟩ := hA.rel.blk _ _ hc1
                rw [hqq] at hq''; cases hq''
                obtain ⟨cur0,ty0,z1,_⟩ := hr0.own hpm hown
                cases hql : q.loop with
                | none =>
                  obtain ⟨es,en,cl,a1,_,a3,_⟩ := hr2.map hqm hql (.inl hown2)
                  rw [heq] at a1
                  obtain ⟨es',en',cl',_,_,z2,_⟩ := hr1.map hqm hql (.inr (by rw [a1]; simp))
                  rw [hs,z1] at z2; cases z2
                | some x =>
                  obtain ⟨_,_,_,a1,_,a3,_⟩ := hr2.loop x.1 x.2 hqm hql (.inl hown2)
                  rw [heq] at a1
                  obtain ⟨_,_,_,_,_,z2,_⟩ := hr1.loop x.1 x.2 hqm hql (.inr (by rw [a1]; simp))
                  rw [hs,z1] at z2; cases z2
              case false =>
              refine ⟨fun _ => ⟨fun j x hx => ?_⟩,fun _ _ => ?_,fun _ _ c => (by rw [hpm] at c; cases c),fun c => by rw [hpm] at c; cases c⟩
              · have hj : j < bi.cells.length := (List.getElem?_eq_some_iff.1 hx).1
                obtain ⟨u,hu,hur⟩ := (hr2.cells hqm).out j x (by rw [heq,List.getElem?_append_left hj]; exact hx)
                rw [hs,hs1] at hu
                exact ⟨u,hu,hur⟩
              · obtain ⟨cur,ty,z1,z2,z3⟩ := hr2.own hqm hown2
                rw [hs] at z1
                rw [heq,hs1,hs2,List.length_append] at z2
                exact ⟨cur,ty,z1,by omega,by omega⟩
            · have hle : PLe ρ ρ2 := fun j r hr => by
                have hj : j < m.next := Nat.lt_of_not_le fun hle => by rw [hR.rel.fresh j hle] at hr; cases hr
                rw [hC.old j (by omega),hag j hj]; exact hr
              exact hr0.kept hle fun _ => hC.frame p.blk hpl fun c => noUse hs c.use
          refine ⟨hAC.old,⟨fun j hj => hC.rel.fresh j hj,fun j bj hj => ?_,fun x y bx byy px py hx hox hpx hy huy hne hpy => ?_⟩,hAC.next,hAC.size,hAC.os,hAC.tape,hAC.output,?_,?_,hAC.frame,fun j hj hn0 => ?_⟩
          · rcases hlook j bj hj with ⟨rfl,rfl⟩ | ⟨rfl,rfl⟩ | ⟨h1,h2,h3⟩
            · exact ⟨p,hp2,hBi⟩
            · exact ⟨q,hq2,⟨fun _ => ⟨fun n c hc => by simp at hc⟩,fun _ ho => by simp at ho,fun _ _ _ _ hu => (by simp at hu),fun _ _ hu => (by simp at hu)⟩⟩
            · exact hC.rel.blk j bj h3
          · rcases hlook x bx hx with ⟨rfl,rfl⟩ | ⟨rfl,rfl⟩ | ⟨h1,h2,h3⟩
            · rw [hp2] at hpx; cases hpx
              rcases hlook y byy hy with ⟨rfl,rfl⟩ | ⟨rfl,rfl⟩ | ⟨g1,g2,g3⟩
              · exact absurd rfl hne
              · simp at huy
              · exact hap y byy py g3 huy g1 g2 hpy
            · simp at hox
            · rcases hlook y byy hy with ⟨rfl,rfl⟩ | ⟨rfl,rfl⟩ | ⟨g1,g2,g3⟩
              · rw [hp2] at hpy; cases hpy
                exact (hap x bx px h3 (.inl hox) h1 h2 hpx).symm
              · simp at huy
              · exact hC.rel.apart x y bx byy px py h3 hox hpx g3 huy hne hpy
          · rintro B ⟨j,bj,r,hj,hoj,hr,rfl⟩
            rcases hlook j bj hj with ⟨rfl,rfl⟩ | ⟨rfl,rfl⟩ | ⟨h1,h2,h3⟩
            · rw [hp2] at hr; cases hr
              exact hR.own _ ⟨_,_,_,hbi,hown,hp,rfl⟩
            · simp at hoj
            · exact hAC.own _ ⟨j,bj,r,h3,hoj,hr,rfl⟩
          · rintro B ⟨j,bj,r,hj,hoj,hr,rfl⟩
            rcases hlook j bj hj with ⟨rfl,rfl⟩ | ⟨rfl,rfl⟩ | ⟨h1,h2,h3⟩
            · rw [hp2] at hr; cases hr
              exact hR.use _ ⟨_,_,_,hbi,.inl hown,hp,rfl⟩
            · simp at hoj
            · exact hAC.use _ ⟨j,bj,r,h3,hoj,hr,rfl⟩
          · have e1 : j ≠ i := by rintro rfl; rw [hR.gone _ hj hn0] at hbi; cases hbi
            have e2 : j ≠ m.next := by rintro rfl; rw [hA.gone _ hj hn0] at hc1; cases hc1
            rw [Mem.look_put,if_neg e1,Mem.look_put,if_neg e2]
            exact hAC.gone j hj hn0
        · cases hg
      · cases hg
    · simp only [Option.some.injEq] at hg
      subst hg; exact hAC
  · simp only [Option.some.injEq] at hg
    subst hg; exact hAC
def Writes (P : Program) (ρ : PM) (m : Mem) (w : World) (ev : Operand → Value) (o : Oper) (v : AV) (m' : Mem) : Prop :=
  ∃ nx w' ρ',(execOp ev o).run P w = .ok nx w' ∧ ((∃ u,nx = .value u ∧ VR ρ' v u) ∨ (nx = .skip ∧ v = .undef)) ∧ Stp ρ m w ρ' m' w'
theorem eff_op (hE : EnvR P ρ e a) (o : Oper) {aop : AOp} (hc : cOp P o.op = some aop) (hs : aop.sort = 3) (hn : ∀ f l,aop ≠ .call f l) {m m' : Mem} {w : World} (hR : Rel ρ m w) {h : List Mem} {bk : Nat} {sl : Option Nat} {v : AV}
    (he : stepOp e m h bk sl aop = some (v,m')) : Writes P ρ m w a.eval o v m' := by
  unfold cOp at hc
  split at hc
  case h_9 t x y hop =>
    split at hc <;> cases hc
    rename_i n x' y' h1 h2 h3
    simp only [stepOp] at he
    split at he
    · rename_i m1 hm1
      simp only [Option.some.injEq,Prod.mk.injEq] at he; obtain ⟨rfl,rfl⟩ := he
      obtain ⟨w',hw1,hw2⟩ := store_sound hR h1 (cOpd_sound hE h2) (cOpd_sound hE h3) hm1
      exact ⟨.skip,w',ρ,by simp [execOp,hop,hw1],.inr ⟨rfl,rfl⟩,hw2⟩
    · cases he
  case h_22 c hop =>
    split at hc
    · rename_i xs hxs
      split at hc
      · simp only [Option.map_eq_some_iff] at hc; obtain ⟨y,hy,rfl⟩ := hc; exact absurd rfl (hn _ _)
      · rename_i b hcb
        unfold cBuiltin at hc
        split at hc
        · split at hc <;> cases hc; cases hs
        · rename_i t u s x hts
          cases ht : Nat.beq t u <;> simp only [ht,cond_false,cond_true] at hc
          · cases hc
          · have htu : t = u := by simpa using ht
            subst htu
            split at hc
            · rename_i el hu
              split at hc
              · rename_i n bb z h1 h2 h3
                cases hn0 : Nat.beq n 0 <;> simp [hn0] at hc
                subst hc
                have hn' : n ≠ 0 := by rintro rfl; simp at hn0
                simp only [stepOp] at he
                obtain ⟨cs,cx,e1,e2,e3⟩ := cOpds_two hE hxs
                obtain ⟨q,w',ρ',hr,hv,hst⟩ := append_sound (ty := o.type) hR hu h1 h2 h3 hn' e2 e3 he
                refine ⟨.value q,w',ρ',?_,.inl ⟨q,rfl,hv⟩,hst⟩
                rw [exec_builtin hop hcb (Builtin.append_ c.argTypes o.type (c.args.map a.eval)) rfl,e1,list_two hts]
                simp [hr]
              · cases hc
            · cases hc
        · rename_i t u s x hts
          cases ht : Nat.beq t u <;> simp only [ht,cond_false,cond_true] at hc
          · cases hc
          · have htu : t = u := by simpa using ht
            subst htu
            split at hc
            · rename_i el hu
              split at hc <;> cases hc
              rename_i n h1
              simp only [stepOp] at he
              obtain ⟨cs,cx,e1,e2,e3⟩ := cOpds_two hE hxs
              obtain ⟨q,w',hr,hv,hst⟩ := copy_sound (ty := o.type) hR hu h1 e2 e3 he
              refine ⟨.value q,w',ρ,?_,.inl ⟨q,rfl,hv⟩,hst⟩
              rw [exec_builtin hop hcb (Builtin.copy_ c.argTypes o.type (c.args.map a.eval)) rfl,e1,list_two hts]
              simp [hr]
            · cases hc
        · rename_i t x hts
          split at hc
          · rename_i el hu
            split at hc
            · rename_i n z h1 h2
              cases hn1 : Nat.beq n 1 <;> simp [hn1] at hc
              subst hc
              have hn' : n = 1 := by simpa using hn1
              subst hn'
              simp only [stepOp] at he
              split at he
              · rename_i m1 hm1
                simp only [Option.some.injEq,Prod.mk.injEq] at he; obtain ⟨rfl,rfl⟩ := he
                obtain ⟨cs,e1,e2⟩ := cOpds_one hE hxs
                obtain ⟨q,w',hr,hv,hst⟩ := clr_sound (ty := o.type) hR hu h1 h2 e2 hm1
                refine ⟨.value q,w',ρ,?_,.inl ⟨q,rfl,hv⟩,hst⟩
                rw [exec_builtin hop hcb (Builtin.clear_ c.argTypes o.type (c.args.map a.eval)) rfl,e1,list_one hts]
                simp [hr]
              · cases he
            · rename_i n z0 y0 r0 h1 h2
              cases hn1 : Nat.beq n 0 <;> simp [hn1] at hc
              subst hc
              simp only [stepOp] at he
              split at he
              · rename_i m1 hm1
                simp only [Option.some.injEq,Prod.mk.injEq] at he; obtain ⟨rfl,rfl⟩ := he
                obtain ⟨cs,e1,e2⟩ := cOpds_one hE hxs
                obtain ⟨q,w',hr,hv,hst⟩ := clrs_sound (ty := o.type) hR hu h2 (by simp) e2 hm1
                refine ⟨.value q,w',ρ,?_,.inl ⟨q,rfl,hv⟩,hst⟩
                rw [exec_builtin hop hcb (Builtin.clear_ c.argTypes o.type (c.args.map a.eval)) rfl,e1,list_one hts]
                simp [hr]
              · cases he
            · cases hc
          · cases hc
        · cases hc; cases hs
        · cases hc; cases hs
        · cases hc
      · cases hc
    · cases hc
  case h_23 t hop =>
    cases hc
    simp only [stepOp,Option.some.injEq,Prod.mk.injEq] at he; obtain ⟨rfl,rfl⟩ := he
    refine ⟨.value (.map (some w.heap.size)),_,_,?_,.inl ⟨_,rfl,VR.map (p := ⟨w.heap.size,0,0,true,none⟩) (upd_same _ _ _) rfl rfl⟩,Stp.newM hR⟩
    simp [execOp,hop,Instr.makeMap]
  case h_24 t x i ck hop =>
    split at hc
    · rename_i el x' i' h1 h2 h3
      split at hc <;> cases hc
      rename_i z hz
      simp only [stepOp] at he
      split at he
      · rename_i v' hv'
        simp only [Option.some.injEq,Prod.mk.injEq] at he; obtain ⟨rfl,rfl⟩ := he
        obtain ⟨u,hu,hv⟩ := look_sound hR h1 hz (cOpd_sound hE h2) (cOpd_sound hE h3) hv'
        exact ⟨.value u,w,ρ,by simp [execOp,hop,hu],.inl ⟨u,rfl,hv⟩,Stp.refl hR⟩
      · cases he
    · cases hc
  case h_25 t x k y hop =>
    split at hc <;> cases hc
    rename_i el x' k' y' h1 h2 h3 h4
    simp only [stepOp] at he
    split at he
    · rename_i m1 hm1
      simp only [Option.some.injEq,Prod.mk.injEq] at he; obtain ⟨rfl,rfl⟩ := he
      obtain ⟨w',hw1,hw2⟩ := putM_sound hR h1 (cOpd_sound hE h2) (cOpd_sound hE h3) (cOpd_sound hE h4) hm1
      exact ⟨.skip,w',ρ,by simp [execOp,hop,hw1],.inr ⟨rfl,rfl⟩,hw2⟩
    · cases he
  all_goals
    exfalso
    cases aop <;> first | (cases hs; done) | skip
    all_goals (repeat' split at hc)
    all_goals first | (cases hc; done) | (simp [Option.map_eq_some_iff,Bool.cond_eq_ite] at hc; done)
theorem call_op (hE : EnvR P ρ e a) (o : Oper) {f : Opd} {l : List Opd} (hc : cOp P o.op = some (.call f l)) {g : Nat} {first cap : List AV} (hf : f.ev e = .func g first cap) (hlow : g < 100000)
    {fn : Func} (hfn : P.funcs[g]? = some fn) (hname : (fn.name == "runtime.NumGoroutine") = false) (hbody : fn.body.isNone = false) :
    ∃ args : Array Value,VRs ρ (first ++ (l.map (Opd.ev e) ++ cap)) args.toList ∧ ∀ w,(execOp a.eval o).run P w = .ok (.enter g args) w := by
  unfold cOp at hc
  split at hc
  case h_22 c hop =>
    split at hc
    · rename_i xs hxs
      split at hc
      · rename_i f' hcf
        simp only [Option.map_eq_some_iff,AOp.call.injEq] at hc; obtain ⟨y,hy,rfl,rfl⟩ := hc
        have hv := cOpd_sound hE hy
        rw [hf] at hv
        cases hcv : a.eval f' <;> rw [hcv] at hv <;> cases hv
        case yield => omega
        rename_i vs us _ h1 h2
        refine ⟨vs ++ c.args.map a.eval ++ us,?_,fun w => ?_⟩
        · simp only [Array.toList_append,List.append_assoc]
          exact h1.append ((VRs.map_eval hE hxs).append h2)
        · have hname' : ¬ fn.name = "runtime.NumGoroutine" := by simpa using hname
          have hbody' : ¬ fn.body = none := fun e0 => by rw [e0] at hbody; cases hbody
          simp [execOp,hop,resolve,hcf,hcv,Deferred.ofValue,invoke,callFunc,run_program,hfn,hname',hbody']
      · rename_i b hcb
        exfalso
        unfold cBuiltin at hc
        repeat' split at hc
        all_goals first | (cases hc; done) | (simp [Bool.cond_eq_ite] at hc; done) | (rename_i t u _ _ _; cases ht : Nat.beq t u <;> simp only [ht,cond_false,cond_true] at hc <;> (repeat' split at hc) <;> first | (cases hc; done) | (simp [Bool.cond_eq_ite] at hc; done))
      · cases hc
    · cases hc
  all_goals
    exfalso
    (repeat' split at hc)
    all_goals first | (cases hc; done) | (simp [Option.map_eq_some_iff,Bool.cond_eq_ite] at hc; done)
omit [Glo] in
theorem Env.at_set (e : Env) (d : Nat) (v : AV) (t : Nat) : Env.at (e.set d v) t = if t = d then v else e.at t := by
  unfold Env.at
  rw [Tr.get_set]
  split <;> rfl
theorem EnvR.put (hE : EnvR P ρ e a) {v : AV} {u : Value} (hv : VR ρ v u) (d : Option Nat) (hd : ∀ t,d = some t → t < a.tmps.size) : EnvR P ρ (putD e d v) (a.put d u) := by
  cases d with
  | none => exact hE
  | some d =>
    refine ⟨fun t => ?_,hE.glob⟩
    have hd' := hd d rfl
    simp only [putD,Act.put]
    rw [Env.at_set]
    by_cases ht : t = d
    · subst ht; simp [hd',hv]
    · rw [if_neg ht]
      have := hE.slot t
      simp only [Array.getD_eq_getD_getElem?] at this ⊢
      rw [Array.getElem?_setIfInBounds_ne (Ne.symm ht)]
      exact this
omit [Glo] in
theorem put_size (a : Act) (d : Option Nat) (u : Value) : (a.put d u).tmps.size = a.tmps.size := by cases d <;> simp [Act.put]
omit [Glo] in
theorem put_defers (a : Act) (d : Option Nat) (u : Value) : (a.put d u).defers = a.defers := by cases d <;> rfl
theorem VR.of_bool {v : AV} {b : Bool} (h : VR ρ v (.bool b)) : v = .bool b := by cases h; rfl
theorem VR.bool_iff {v : AV} {u : Value} (h : VR ρ v u) (b : Bool) : v = .bool b ↔ u = .bool b := by
  constructor
  · rintro rfl; cases h; rfl
  · rintro rfl; exact h.of_bool
theorem wanted_sound (hE : EnvR P ρ e a) {ops : Array Oper} {o : Oper} {g : Option (Nat × Bool)} (hg : guardOf ops o.guard = some g) : Region.wanted o (yielded ops a.tmps) = wanted e g := by
  unfold guardOf at hg
  split at hg
  · rename_i hgd
    cases hg
    simp [Region.wanted,hgd,wanted]
  · rename_i j b hgd
    split at hg
    · rename_i t ht
      cases hg
      simp only [Region.wanted,hgd,wanted,yielded,ht,Option.bind_some]
      have hs := hE.slot t
      by_cases hlt : t < a.tmps.size
      · rw [Array.getElem?_eq_getElem hlt]
        have hget : a.tmps.getD t undef = a.tmps[t] := by simp [hlt]
        rw [hget] at hs
        generalize a.tmps[t] = u at hs
        generalize e.at t = v at hs
        cases hs <;> simp
      · rw [Array.getElem?_eq_none (Nat.le_of_not_lt hlt)]
        have hget : a.tmps.getD t undef = undef := by simp [hlt]
        rw [hget] at hs
        generalize e.at t = v at hs
        cases hs; simp
    · cases hg
end Go.Am
