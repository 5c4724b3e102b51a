/-
  THE ABSTRACT MACHINE, 8: slots, guards, writes, calls; a region in the order of the text.
-/
import Derived.Test.YtcckhkcchpfdoaaAm7
set_option linter.unusedVariables false
set_option linter.unusedSimpArgs false
namespace Go.Am
variable {P : Program} {ρ : PM} {e : Env} {a : Act}

theorem copy_sound {m m' : Mem} {w : World} {t el ty : TypeId} {size : Nat} {d s v : AV} {cd cs : Value} (hR : Rel ρ m w) (ht : P.underlying t = some (.slice el))
    (hsz : sizeT P el = some size) (hd : VR ρ d cd) (hs : VR ρ s cs) (h : copyAt m size d s = some (v, m')) :
    ∃ u w', (Builtin.copy_ #[t, t] ty #[cd, cs]).run P w = .ok u w' ∧ VR ρ v u ∧ Stp ρ m w ρ m' w' := by
  unfold copyAt at h
  split at h
  · rename_i news k n hn hk hnl
    obtain ⟨vn, cn⟩ := sliceCells_sound hR hs hn
    obtain ⟨i, hi, hisz⟩ := sizeT_some hsz
    have hf : ∀ q, q ≤ k → (Builtin.firstCells size q cs).run P w = .ok (vn.take (q * size)).toArray w := by
      intro q hq
      cases cn with
      | nil => simpa using run_firstCells_none w size q 0 0
      | some hl hv hc =>
        simp only [sliceLen, Option.some.injEq] at hk
        subst hk
        refine run_firstCells_some (P := P) w size q _ _ _ (vn.take (q * size)) ?_ fun j v hj => ?_
        · rw [List.length_take, hl]; exact Nat.min_eq_left (Nat.mul_le_mul_right _ hq)
        · rw [List.getElem?_take] at hj
          split at hj
          · exact hc j v hj
          · cases hj
    have hlen : (Builtin.lenOf cs).run P w = .ok k w := by
      cases cn with
      | nil => simp only [sliceLen, Option.some.injEq] at hk; subst hk; rfl
      | some hl hv hc => simp only [sliceLen, Option.some.injEq] at hk; subst hk; rfl
    have hvr : VRs ρ news vn := by
      cases cn with
      | nil => exact .nil
      | some hl hv hc => exact hv
    split at h
    · simp only [Option.some.injEq, Prod.mk.injEq] at h
      obtain ⟨rfl, rfl⟩ := h
      cases hd
      have h0 := hf 0 (Nat.zero_le _)
      refine ⟨.int .i64 0, w, ?_, .int _ _, Stp.refl hR⟩
      simp only [Nat.zero_mul, List.take_zero] at h0
      simp [Builtin.copy_, run_underlying ht, hlen, run_size hsz, h0, goInt]
    · rename_i i' o' len' cap' g'
      split at h
      · cases h
      · rename_i b hb
        simp only [sliceLen, Option.some.injEq] at hnl
        subst hnl
        cases hc : (b.own && (Nat.ble (o' + len' * size) b.cells.length && news.all AV.scalar))
        · simp [hc] at h
        · simp only [hc, cond_true, Option.some.injEq, Prod.mk.injEq] at h
          obtain ⟨rfl, rfl⟩ := h
          simp only [Bool.and_eq_true, Nat.ble_eq] at hc
          obtain ⟨h1, h2, h3⟩ := hc
          have hmin : Nat.min k len' ≤ k := Nat.min_le_left _ _
          have hf' := hf _ hmin
          have hmin2 : Nat.min k len' * size ≤ len' * size := Nat.mul_le_mul_right _ (Nat.min_le_right _ _)
          have hall : (news.take (Nat.min k len' * size)).all AV.scalar = true := by
            rw [List.all_eq_true] at h3 ⊢
            exact fun x hx => h3 x (List.mem_of_mem_take hx)
          have key : ∀ (p : Place) (c' : Nat), ρ i' = some p → ∃ u w', (Builtin.copy_ #[t, t] ty #[.slice (some ⟨p.blk, p.off + o', none⟩) len' c', cs]).run P w = .ok u w' ∧ VR ρ (.int .i64 (Nat.min k len')) u ∧
              Stp ρ m w ρ (m.put i' ⟨splice b.cells o' (news.take (Nat.min k len' * size)), true⟩) w' := by
            intro p c' hp
            obtain ⟨w', hw1, hw2⟩ := write_sound (P := P) (o := o') hR hb h1 hp (hvr.take (Nat.min k len' * size)) (by rw [List.length_take]; omega) hall
            refine ⟨_, w', ?_, .int _ _, hw2⟩
            simp [Builtin.copy_, run_underlying ht, hlen, run_size hsz, hf', hw1, goInt]
          cases hd with
          | slice hp => exact key _ _ hp
          | grow hp _ _ _ => exact key _ _ hp
          | last =>
            have h0 : Nat.min k 0 = 0 := Nat.min_zero k
            have hf0 := hf 0 (Nat.zero_le _)
            simp only [Nat.zero_mul, List.take_zero] at hf0
            obtain ⟨p, hp, _⟩ := hR.blk i' b hb
            obtain ⟨w', hw1, hw2⟩ := write_sound (P := P) (o := o') (xs := news.take (Nat.min k 0 * size)) (vs := vn.take (Nat.min k 0 * size)) hR hb h1 hp (hvr.take _) (by rw [List.length_take]; omega) hall
            rw [h0] at hw1 hw2 ⊢
            simp only [Nat.zero_mul, List.take_zero, storeCells, Sem.run_pure, Result.ok.injEq, true_and] at hw1 hw2 ⊢
            subst hw1
            refine ⟨_, w, ?_, .int _ _, hw2⟩
            simp [Builtin.copy_, run_underlying ht, hlen, run_size hsz, hf0, goInt, storeCells]
    · cases h
  · cases h

theorem clr_sound {m m' : Mem} {w : World} {t el ty : TypeId} {z s : AV} {cs : Value} (hR : Rel ρ m w) (ht : P.underlying t = some (.slice el))
    (hsz : sizeT P el = some 1) (hz : zeroT P el = some [z]) (hs : VR ρ s cs) (h : clrAt m z s = some m') :
    ∃ u w', (Builtin.clear_ #[t] ty #[cs]).run P w = .ok u w' ∧ VR ρ .undef u ∧ Stp ρ m w ρ m' w' := by
  unfold clrAt at h
  split at h
  · cases hs
    simp only [Option.some.injEq] at h
    subst h
    exact ⟨.tuple #[], w, by simp [Builtin.clear_, run_underlying ht], .tup .nil, Stp.refl hR⟩
  · rename_i i o n cap g
    split at h
    · cases h
    · rename_i b hb
      cases hc : (b.own && (Nat.ble (o + n) b.cells.length && z.scalar))
      · simp [hc] at h
      · simp only [hc, cond_true, Option.some.injEq] at h
        subst h
        simp only [Bool.and_eq_true, Nat.ble_eq] at hc
        obtain ⟨h1, h2, h3⟩ := hc
        obtain ⟨inf, zv, hinf, hzv, hzr, _⟩ := zeroT_some (ρ := ρ) hz
        obtain ⟨u, hu, huz⟩ : ∃ u, zv.cells = #[u] ∧ VR ρ z u := by
          generalize hq : zv.cells.toList = l at hzr
          cases hzr with
          | cons hv hr =>
            cases hr
            exact ⟨_, list_one hq, hv⟩
        have hzc : (Builtin.zeroCells zv.cells n).toList = List.replicate n u := by
          rw [hu]
          apply List.ext_getElem
          · simp [Builtin.zeroCells]
          · intro j h1 h2
            simp [Builtin.zeroCells, Nat.mod_one]
        have hrep : ∀ k, VRs ρ (List.replicate k z) (List.replicate k u) := by
          intro k
          induction k with
          | zero => exact .nil
          | succ k ih => exact .cons huz ih
        have key : ∀ (p : Place) (c' : Nat), ρ i = some p → ∃ w', (Builtin.clear_ #[t] ty #[.slice (some ⟨p.blk, p.off + o, none⟩) n c']).run P w = .ok (.tuple #[]) w' ∧
            Stp ρ m w ρ (m.put i ⟨splice b.cells o (List.replicate n z), true⟩) w' := by
          intro p c' hp
          obtain ⟨w', hw1, hw2⟩ := write_sound (P := P) (o := o) hR hb h1 hp (hrep n) (by rw [List.length_replicate]; omega) (by rw [List.all_eq_true]; intro x hx; rw [(List.mem_replicate.1 hx).2]; exact h3)
          refine ⟨w', ?_, hw2⟩
          cases n with
          | zero =>
            simp only [List.replicate_zero, storeCells, Sem.run_pure, Result.ok.injEq, true_and] at hw1
            subst hw1
            simp [Builtin.clear_, run_underlying ht]
          | succ n =>
            simp only [Builtin.clear_, List.getElem?_toArray, List.getElem?_cons_zero, Sem.run_bind, run_underlying ht, Result.andThen_ok, zeroValue, typeInfo, run_program, hinf, hzv, Sem.run_pure, hzc, hw1]
        cases hs with
        | slice hp =>
          obtain ⟨w', h4, h5⟩ := key _ cap hp
          exact ⟨_, w', h4, .tup .nil, h5⟩
        | grow hp _ _ _ =>
          obtain ⟨w', h4, h5⟩ := key _ _ hp
          exact ⟨_, w', h4, .tup .nil, h5⟩
        | last =>
          obtain ⟨p, hp, _⟩ := hR.blk i b hb
          obtain ⟨w', h4, h5⟩ := key p 0 hp
          have h6 : (Builtin.clear_ #[t] ty #[.slice (some ⟨p.blk, p.off + o, none⟩) 0 0]).run P w = .ok (.tuple #[]) w := by simp [Builtin.clear_, run_underlying ht]
          rw [h6] at h4
          simp only [Result.ok.injEq, true_and] at h4
          subst h4
          exact ⟨.tuple #[], w, by simp [Builtin.clear_, run_underlying ht], .tup .nil, h5⟩
  · cases h

/-- What an operation that writes gives. -/
def Writes (P : Program) (ρ : PM) (m : Mem) (w : World) (ev : Operand → Value) (o : Oper) (v : AV) (m' : Mem) : Prop :=
  ∃ nx w' ρ', (execOp ev o).run P w = .ok nx w' ∧ ((∃ u, nx = .value u ∧ VR ρ' v u) ∨ (nx = .skip ∧ v = .undef)) ∧ Stp ρ m w ρ' m' w'

theorem eff_op (hE : EnvR P ρ e a) (o : Oper) {aop : AOp} (hc : cOp P o.op = some aop) (hs : aop.sort = 3) (hn : ∀ f l, aop ≠ .call f l) {m m' : Mem} {w : World} (hR : Rel ρ m w) {h : List Mem} {bk : Nat} {sl : Option Nat} {v : AV}
    (he : stepOp e m h bk sl aop = some (v, m')) : Writes P ρ m w a.eval o v m' := by
  unfold cOp at hc
  split at hc
  case h_9 t x y hop =>
    split at hc <;> cases hc
    rename_i n x' y' h1 h2 h3
    simp only [stepOp] at he
    split at he
    · rename_i m1 hm1
      simp only [Option.some.injEq, Prod.mk.injEq] at he; obtain ⟨rfl, rfl⟩ := he
      obtain ⟨w', hw1, hw2⟩ := store_sound hR h1 (cOpd_sound hE h2) (cOpd_sound hE h3) hm1
      exact ⟨.skip, w', ρ, by simp [execOp, hop, hw1], .inr ⟨rfl, rfl⟩, hw2⟩
    · cases he
  case h_22 c hop =>
    split at hc
    · rename_i xs hxs
      split at hc
      · simp only [Option.map_eq_some_iff] at hc; obtain ⟨y, hy, rfl⟩ := hc; exact absurd rfl (hn _ _)
      · rename_i b hcb
        unfold cBuiltin at hc
        split at hc
        · split at hc <;> cases hc; cases hs
        · rename_i t u s x hts
          cases ht : Nat.beq t u <;> simp only [ht, cond_false, cond_true] at hc
          · cases hc
          · have htu : t = u := by simpa using ht
            subst htu
            split at hc
            · rename_i el hu
              split at hc
              · rename_i n bb z h1 h2 h3
                cases hn0 : Nat.beq n 0 <;> simp [hn0] at hc
                subst hc
                have hn' : n ≠ 0 := by rintro rfl; simp at hn0
                simp only [stepOp] at he
                obtain ⟨cs, cx, e1, e2, e3⟩ := cOpds_two hE hxs
                obtain ⟨q, w', ρ', hr, hv, hst⟩ := append_sound (ty := o.type) hR hu h1 h2 h3 hn' e2 e3 he
                refine ⟨.value q, w', ρ', ?_, .inl ⟨q, rfl, hv⟩, hst⟩
                rw [exec_builtin hop hcb (Builtin.append_ c.argTypes o.type (c.args.map a.eval)) rfl, e1, list_two hts]
                simp [hr]
              · cases hc
            · cases hc
        · rename_i t u s x hts
          cases ht : Nat.beq t u <;> simp only [ht, cond_false, cond_true] at hc
          · cases hc
          · have htu : t = u := by simpa using ht
            subst htu
            split at hc
            · rename_i el hu
              split at hc <;> cases hc
              rename_i n h1
              simp only [stepOp] at he
              obtain ⟨cs, cx, e1, e2, e3⟩ := cOpds_two hE hxs
              obtain ⟨q, w', hr, hv, hst⟩ := copy_sound (ty := o.type) hR hu h1 e2 e3 he
              refine ⟨.value q, w', ρ, ?_, .inl ⟨q, rfl, hv⟩, hst⟩
              rw [exec_builtin hop hcb (Builtin.copy_ c.argTypes o.type (c.args.map a.eval)) rfl, e1, list_two hts]
              simp [hr]
            · cases hc
        · rename_i t x hts
          split at hc
          · rename_i el hu
            split at hc
            · rename_i n z h1 h2
              cases hn1 : Nat.beq n 1 <;> simp [hn1] at hc
              subst hc
              have hn' : n = 1 := by simpa using hn1
              subst hn'
              simp only [stepOp] at he
              split at he
              · rename_i m1 hm1
                simp only [Option.some.injEq, Prod.mk.injEq] at he; obtain ⟨rfl, rfl⟩ := he
                obtain ⟨cs, e1, e2⟩ := cOpds_one hE hxs
                obtain ⟨q, w', hr, hv, hst⟩ := clr_sound (ty := o.type) hR hu h1 h2 e2 hm1
                refine ⟨.value q, w', ρ, ?_, .inl ⟨q, rfl, hv⟩, hst⟩
                rw [exec_builtin hop hcb (Builtin.clear_ c.argTypes o.type (c.args.map a.eval)) rfl, e1, list_one hts]
                simp [hr]
              · cases he
            · cases hc
          · cases hc
        · cases hc; cases hs
        · cases hc; cases hs
        · cases hc
      · cases hc
    · cases hc
  all_goals
    exfalso
    cases aop <;> first | (cases hs; done) | skip
    all_goals (repeat' split at hc)
    all_goals first | (cases hc; done) | (simp [Option.map_eq_some_iff, Bool.cond_eq_ite] at hc; done)

/-- The operation is a call: what the model makes of it. -/
theorem call_op (hE : EnvR P ρ e a) (o : Oper) {f : Opd} {l : List Opd} (hc : cOp P o.op = some (.call f l)) {g : Nat} {first cap : List AV} (hf : f.ev e = .func g first cap)
    {fn : Func} (hfn : P.funcs[g]? = some fn) (hname : (fn.name == "runtime.NumGoroutine") = false) (hbody : fn.body.isNone = false) :
    ∃ args : Array Value, VRs ρ (first ++ (l.map (Opd.ev e) ++ cap)) args.toList ∧ ∀ w, (execOp a.eval o).run P w = .ok (.enter g args) w := by
  unfold cOp at hc
  split at hc
  case h_22 c hop =>
    split at hc
    · rename_i xs hxs
      split at hc
      · rename_i f' hcf
        simp only [Option.map_eq_some_iff, AOp.call.injEq] at hc; obtain ⟨y, hy, rfl, rfl⟩ := hc
        have hv := cOpd_sound hE hy
        rw [hf] at hv
        cases hcv : a.eval f' <;> rw [hcv] at hv <;> cases hv
        rename_i vs us h1 h2
        refine ⟨vs ++ c.args.map a.eval ++ us, ?_, fun w => ?_⟩
        · simp only [Array.toList_append, List.append_assoc]
          exact h1.append ((VRs.map_eval hE hxs).append h2)
        · have hname' : ¬ fn.name = "runtime.NumGoroutine" := by simpa using hname
          have hbody' : ¬ fn.body = none := fun e0 => by rw [e0] at hbody; cases hbody
          simp [execOp, hop, resolve, hcf, hcv, Deferred.ofValue, invoke, callFunc, run_program, hfn, hname', hbody']
      · rename_i b hcb
        exfalso
        unfold cBuiltin at hc
        repeat' split at hc
        all_goals first | (cases hc; done) | (simp [Bool.cond_eq_ite] at hc; done) | (rename_i t u _ _ _; cases ht : Nat.beq t u <;> simp only [ht, cond_false, cond_true] at hc <;> (repeat' split at hc) <;> first | (cases hc; done) | (simp [Bool.cond_eq_ite] at hc; done))
      · cases hc
    · cases hc
  all_goals
    exfalso
    (repeat' split at hc)
    all_goals first | (cases hc; done) | (simp [Option.map_eq_some_iff, Bool.cond_eq_ite] at hc; done)

/-! ### Slots -/
theorem Env.at_set (e : Env) (d : Nat) (v : AV) (t : Nat) : Env.at (e.set d v) t = if t = d then v else e.at t := by
  unfold Env.at
  rw [Tr.get_set]
  split <;> rfl

theorem EnvR.put (hE : EnvR P ρ e a) {v : AV} {u : Value} (hv : VR ρ v u) (d : Option Nat) (hd : ∀ t, d = some t → t < a.tmps.size) : EnvR P ρ (putD e d v) (a.put d u) := by
  cases d with
  | none => exact hE
  | some d =>
    refine ⟨fun t => ?_, hE.glob⟩
    have hd' := hd d rfl
    simp only [putD, Act.put]
    rw [Env.at_set]
    by_cases ht : t = d
    · subst ht; simp [hd', hv]
    · rw [if_neg ht]
      have := hE.slot t
      simp only [Array.getD_eq_getD_getElem?] at this ⊢
      rw [Array.getElem?_setIfInBounds_ne (Ne.symm ht)]
      exact this

theorem put_size (a : Act) (d : Option Nat) (u : Value) : (a.put d u).tmps.size = a.tmps.size := by cases d <;> simp [Act.put]
theorem put_defers (a : Act) (d : Option Nat) (u : Value) : (a.put d u).defers = a.defers := by cases d <;> rfl

theorem VR.of_bool {v : AV} {b : Bool} (h : VR ρ v (.bool b)) : v = .bool b := by cases h; rfl
theorem VR.bool_iff {v : AV} {u : Value} (h : VR ρ v u) (b : Bool) : v = .bool b ↔ u = .bool b := by
  constructor
  · rintro rfl; cases h; rfl
  · rintro rfl; exact h.of_bool

theorem wanted_sound (hE : EnvR P ρ e a) {ops : Array Oper} {o : Oper} {g : Option (Nat × Bool)} (hg : guardOf ops o.guard = some g) : Region.wanted o (yielded ops a.tmps) = wanted e g := by
  unfold guardOf at hg
  split at hg
  · rename_i hgd
    cases hg
    simp [Region.wanted, hgd, wanted]
  · rename_i j b hgd
    split at hg
    · rename_i t ht
      cases hg
      simp only [Region.wanted, hgd, wanted, yielded, ht, Option.bind_some]
      have hs := hE.slot t
      by_cases hlt : t < a.tmps.size
      · rw [Array.getElem?_eq_getElem hlt]
        have hget : a.tmps.getD t undef = a.tmps[t] := by simp [hlt]
        rw [hget] at hs
        generalize a.tmps[t] = u at hs
        generalize e.at t = v at hs
        cases hs <;> simp
      · rw [Array.getElem?_eq_none (Nat.le_of_not_lt hlt)]
        have hget : a.tmps.getD t undef = undef := by simp [hlt]
        rw [hget] at hs
        generalize e.at t = v at hs
        cases hs; simp
    · cases hg

end Go.Am

