/-
  THE ABSTRACT MACHINE, 24: what a round does, by the abstract machine alone.
-/
import Derived.Test.YtoppeojgadbjeaaAm23
set_option linter.unusedVariables false
set_option linter.unusedSimpArgs false
namespace Go.Am
theorem callA_inv {C : Prog} {n f : Nat} {af : AFunc} {args : List AV} {m m' : Mem} {v : AV} (hC : C f = some af) (h : callA C n f args m = some (v,m')) :
    ∃ x e',exec C n af.body (Env.of args) m = some (x,e',m') ∧ (x = .normal ∨ x = .ret) ∧ results af e' m' = some v := by
  unfold callA at h
  rw [hC] at h
  simp only at h
  split at h
  · rename_i e1 m1 hx
    split at h
    · rename_i v1 hv; cases h; exact ⟨_,_,hx,.inl rfl,hv⟩
    · cases h
  · rename_i e1 m1 hx
    split at h
    · rename_i v1 hv; cases h; exact ⟨_,_,hx,.inr rfl,hv⟩
    · cases h
  · cases h
theorem x_seq {C : Prog} {n : Nat} {a b : ACode} {e : Env} {m : Mem} {x : AExit} {e' : Env} {m' : Mem} (h : exec C (n + 1) (.seq a b) e m = some (x,e',m')) :
    (∃ e1 m1,exec C n a e m = some (.normal,e1,m1) ∧ exec C n b e1 m1 = some (x,e',m')) ∨ (x ≠ .normal ∧ exec C n a e m = some (x,e',m')) := by
  rw [exec] at h
  split at h
  · rename_i e1 m1 h1; exact .inl ⟨e1,m1,h1,h⟩
  · rename_i hnr
    refine .inr ⟨fun hx => ?_,h⟩
    subst hx
    exact absurd h (hnr _ _)
theorem x_cond {C : Prog} {n : Nat} {c : Opd} {a b : ACode} {e : Env} {m : Mem} {x : AExit} {e' : Env} {m' : Mem} (h : exec C (n + 1) (.cond c a b) e m = some (x,e',m')) :
    (c.ev e = .bool true ∧ exec C n a e m = some (x,e',m')) ∨ (c.ev e = .bool false ∧ exec C n b e m = some (x,e',m')) := by
  rw [exec] at h
  split at h
  · rename_i hc; exact .inl ⟨hc,h⟩
  · rename_i hc; exact .inr ⟨hc,h⟩
  · cases h
theorem x_fail {C : Prog} {n : Nat} {e : Env} {m : Mem} {y : AExit × Env × Mem} (h : exec C n .fail e m = some y) : False := by
  cases n <;> simp [exec] at h
theorem runOps_keep {cf : CallF} {base : Nat} {t : Nat} : ∀ (ops : List AOper) (e : Env) (m : Mem) (h : List Mem),t ∉ ops.flatMap AOper.names → ∀ e' m',runOps cf base ops e m h = some (e',m') → e'.at t = e.at t
  | [],e,m,h,hn,e',m',hr => by
    simp only [runOps,Option.some.injEq,Prod.mk.injEq] at hr
    obtain ⟨rfl,rfl⟩ := hr
    rfl
  | o :: ops,e,m,h,hn,e',m',hr => by
    simp only [List.flatMap_cons,List.mem_append,not_or] at hn
    have hput : ∀ v,(putD e o.dst v).at t = e.at t := fun v => by
      cases hd : o.dst with
      | none => rfl
      | some d =>
        simp only [putD,Env.at_set]
        rw [if_neg]
        rintro rfl
        exact hn.1 (by simp [AOper.names,hd])
    have go : ∀ v m1 h1,runOps cf base ops (putD e o.dst v) m1 h1 = some (e',m') → e'.at t = e.at t := fun v m1 h1 hr1 => (runOps_keep ops _ _ _ hn.2 _ _ hr1).trans (hput v)
    simp only [runOps,Bool.cond_eq_ite] at hr
    split at hr
    · split at hr
      · split at hr
        · split at hr
          · exact go _ _ _ hr
          · cases hr
        · cases hr
      · split at hr
        · split at hr
          · exact go _ _ _ hr
          · cases hr
        · cases hr
      · split at hr
        · exact go _ _ _ hr
        · cases hr
    · exact go _ _ _ hr
theorem exec_keep {C : Prog} {t : Nat} : ∀ (n : Nat) (c : ACode) (e : Env) (m : Mem),t ∉ c.names → ∀ x e' m',exec C n c e m = some (x,e',m') → e'.at t = e.at t
  | 0,c,e,m,hn,x,e',m',h => by simp [exec] at h
  | n + 1,c,e,m,hn,x,e',m',h => by
    cases c with
    | skip => simp only [exec,Option.some.injEq,Prod.mk.injEq] at h; rw [h.2.1]
    | exit id => simp only [exec,Option.some.injEq,Prod.mk.injEq] at h; rw [h.2.1]
    | ret => simp only [exec,Option.some.injEq,Prod.mk.injEq] at h; rw [h.2.1]
    | fail => simp [exec] at h
    | region r ops =>
      have hf : exec C (n + 1) (.region r ops) e m = (match runOps (callA C n) m.next ops e (m.reserve r) [m.reserve r] with | some (e',m') => some (AExit.normal,e',m') | none => none) := rfl
      rw [hf] at h
      split at h
      · rename_i e3 m3 hr
        simp only [Option.some.injEq,Prod.mk.injEq] at h
        obtain ⟨_,rfl,_⟩ := h
        exact runOps_keep ops _ _ _ hn _ _ hr
      · cases h
    | seq a b =>
      simp only [ACode.names,List.mem_append,not_or] at hn
      rcases x_seq h with ⟨e1,m1,h1,h2⟩ | ⟨_,h1⟩
      · exact (exec_keep n b _ _ hn.2 _ _ _ h2).trans (exec_keep n a _ _ hn.1 _ _ _ h1)
      · exact exec_keep n a _ _ hn.1 _ _ _ h1
    | cond c a b =>
      simp only [ACode.names,List.mem_append,not_or] at hn
      rcases x_cond h with ⟨_,h1⟩ | ⟨_,h1⟩
      · exact exec_keep n a _ _ hn.2.1 _ _ _ h1
      · exact exec_keep n b _ _ hn.2.2 _ _ _ h1
    | block id b =>
      rw [exec] at h
      split at h
      · rename_i id' e3 m3 h3
        have := exec_keep n b _ _ hn _ _ _ h3
        cases hq : Nat.beq id' id <;> rw [hq] at h <;> simp only [cond_true,cond_false,Option.some.injEq,Prod.mk.injEq] at h <;> rw [← h.2.1,this]
      · exact exec_keep n b _ _ hn _ _ _ h
    | loop b =>
      rw [exec] at h
      split at h
      · rename_i e3 m3 h3
        exact (exec_keep n (.loop b) _ _ hn _ _ _ h).trans (exec_keep n b _ _ hn _ _ _ h3)
      · exact exec_keep n b _ _ hn _ _ _ h
theorem x_skip {C : Prog} {n : Nat} {e : Env} {m : Mem} {x : AExit} {e' : Env} {m' : Mem} (h : exec C n .skip e m = some (x,e',m')) : x = .normal ∧ e' = e ∧ m' = m := by
  cases n with
  | zero => simp [exec] at h
  | succ n => simp only [exec,Option.some.injEq,Prod.mk.injEq] at h; exact ⟨h.1.symm,h.2.1.symm,h.2.2.symm⟩
theorem round_body {C : Prog} {n k : Nat} {ca cb : ACode} {e : Env} {m m' : Mem} {x : AExit} {e' : Env} {i : Nat} {y : AV} (hx : exec C n (roundA k ca cb).body e m = some (x,e',m')) (hxx : x = .normal ∨ x = .ret)
    (hsa : ca.stays = true) (hsb : cb.stays = true) (hk : e.at k = .ptr i 0) (hk1 : e.at (k + 1) = y) (hna : ∀ t ∈ ca.names,t < k) (hnb : ∀ t ∈ cb.names,t < k) :
    ∃ n1 n2 e1 m1 b1 ee e2 m2 b2,n1 < n ∧ n2 < n ∧ exec C n1 ca e m = some (.normal,e1,m1) ∧ loadAt m1 false 1 y = some (.bool true) ∧ m1.look i = some b1 ∧ b1.own = true ∧
      loadAt (m1.put i ⟨splice b1.cells 0 [.bool false],true⟩) false 1 y = some (.bool false) ∧ (∀ t,t < k → Env.at ee t = e1.at t) ∧ exec C n2 cb ee (m1.put i ⟨splice b1.cells 0 [.bool false],true⟩) = some (.normal,e2,m2) ∧
      m2.look i = some b2 ∧ b2.own = true ∧ m' = m2.put i ⟨splice b2.cells 0 [.bool true],true⟩ := by
  have kA : ∀ {n x e' m'},exec C n ca e m = some (x,e',m') → e'.at k = e.at k ∧ e'.at (k + 1) = e.at (k + 1) := fun h =>
    ⟨exec_keep _ _ _ _ (fun c => Nat.lt_irrefl _ (hna _ c)) _ _ _ h,exec_keep _ _ _ _ (fun c => by have := hna _ c; omega) _ _ _ h⟩
  have kB : ∀ {n e m x e' m'},exec C n cb e m = some (x,e',m') → e'.at k = e.at k := fun h => exec_keep _ _ _ _ (fun c => Nat.lt_irrefl _ (hnb _ c)) _ _ _ h
  have notA : ∀ {n e m e' m'},¬ (x ≠ .normal ∧ exec C n ca e m = some (x,e',m')) := fun ⟨h1,h2⟩ => by
    rcases hxx with rfl | rfl
    · exact h1 rfl
    · exact exec_stays _ _ _ _ hsa _ _ h2
  have notB : ∀ {n e m e' m'},¬ (x ≠ .normal ∧ exec C n cb e m = some (x,e',m')) := fun ⟨h1,h2⟩ => by
    rcases hxx with rfl | rfl
    · exact h1 rfl
    · exact exec_stays _ _ _ _ hsb _ _ h2
  simp only [roundA] at hx
  match n,hx with
  | 0,hx => simp [exec] at hx
  | 1,hx => rcases x_seq hx with ⟨_,_,h,_⟩ | ⟨_,h⟩ <;> simp [exec] at h
  | 2,hx =>
    rcases x_seq hx with ⟨_,_,_,h⟩ | h
    · rcases x_seq h with ⟨_,_,h,_⟩ | ⟨_,h⟩ <;> simp [exec] at h
    · exact (notA h).elim
  | 3,hx =>
    rcases x_seq hx with ⟨_,_,_,h⟩ | h
    · rcases x_seq h with ⟨_,_,_,h⟩ | ⟨h0,h⟩
      · rcases x_seq h with ⟨_,_,h,_⟩ | ⟨_,h⟩ <;> simp [exec] at h
      · exact absurd (x_region h).1 h0
    · exact (notA h).elim
  | n + 4,hx =>
    rcases x_seq hx with ⟨e1,m1,h1,h⟩ | h
    case inr => exact (notA h).elim
    rcases x_seq h with ⟨e2,m2,h2,h⟩ | ⟨h0,h⟩
    case inr => exact absurd (x_region h).1 h0
    obtain ⟨v1,hl1,hr⟩ := r_load (x_region h2).2
    simp only [runOps,putD,Option.some.injEq,Prod.mk.injEq] at hr
    obtain ⟨rfl,rfl⟩ := hr
    simp only [Opd.ev,(kA h1).2,hk1] at hl1
    rcases x_seq h with ⟨e3,m3,h3,h⟩ | ⟨h0,h⟩
    case inr =>
      rcases x_cond h with ⟨_,h⟩ | ⟨_,h⟩
      · cases n with
        | zero => simp [exec] at h
        | succ n => exact absurd (x_region h).1 h0
      · exact (x_fail h).elim
    rcases x_cond h3 with ⟨hv1,h3⟩ | ⟨_,h3⟩
    case inr => exact (x_fail h3).elim
    simp only [Opd.ev,Env.at_set,if_true] at hv1
    subst hv1
    cases n with
    | zero => simp [exec] at h3
    | succ n =>
    obtain ⟨m4,hs4,hr⟩ := r_store (x_region h3).2
    obtain ⟨v4,hl4,hr⟩ := r_load hr
    simp only [runOps,putD,Option.some.injEq,Prod.mk.injEq] at hr
    obtain ⟨rfl,rfl⟩ := hr
    simp only [Opd.ev,putD,Env.at_set] at hs4 hl4
    rw [if_neg (by omega)] at hs4 hl4
    rw [(kA h1).1,hk] at hs4
    rw [(kA h1).2,hk1] at hl4
    obtain ⟨b1,hb1,ho1,rfl⟩ := store_one hs4
    rcases x_seq h with ⟨e5,m5,h5,h⟩ | ⟨h0,h⟩
    case inr =>
      rcases x_cond h with ⟨_,h⟩ | ⟨_,h⟩
      · exact (x_fail h).elim
      · exact absurd (x_skip h).1 h0
    rcases x_cond h5 with ⟨_,h5⟩ | ⟨hv5,h5⟩
    · exact (x_fail h5).elim
    simp only [Opd.ev,Env.at_set,if_true] at hv5
    subst hv5
    obtain ⟨_,rfl,rfl⟩ := x_skip h5
    rcases x_seq h with ⟨e6,m6,h6,h⟩ | h
    case inr => exact (notB h).elim
    cases n with
    | zero => simp [exec] at h
    | succ n =>
    obtain ⟨m7,hs7,hr⟩ := r_store (x_region h).2
    simp only [runOps,Option.some.injEq,Prod.mk.injEq] at hr
    obtain ⟨_,rfl⟩ := hr
    simp only [Opd.ev,kB h6,Env.at_set] at hs7
    rw [if_neg (by omega),if_neg (by omega),(kA h1).1,hk] at hs7
    obtain ⟨b2,hb2,ho2,rfl⟩ := store_one hs7
    exact ⟨_,_,e1,m1,b1,_,e6,m6,b2,by omega,by omega,h1,hl1,hb1,ho1,hl4,fun t ht => by rw [Env.at_set,if_neg (by omega),Env.at_set,if_neg (by omega)],h6,hb2,ho2,rfl⟩
theorem load_other {m : Mem} {i : Nat} {b : Blk} {y v v' : AV} (h : loadAt m false 1 y = some v) (h' : loadAt (m.put i b) false 1 y = some v') (hne : v ≠ v') : ∃ o,y = .ptr i o := by
  cases y with
  | ptr i' o =>
    by_cases e : i' = i
    · exact ⟨o,by rw [e]⟩
    · exfalso
      simp only [loadAt,cond_false,Mem.look_put,if_neg e] at h h'
      rw [h] at h'
      exact hne (by simpa using h')
  | _ => simp [loadAt] at h
theorem round_run {C : Prog} {n j k p : Nat} {us : List Nat} {ca cb : ACode} {args caps : List AV} {m m' : Mem} {v : AV} {i : Nat} (h1 : C j = some (wrapA j k [p] us)) (h2 : C (j + 1) = some (roundA k ca cb)) (hl : caps.length = us.length)
    (hsa : ca.stays = true) (hsb : cb.stays = true) (hna : ∀ t ∈ ca.names,t < k) (hnb : ∀ t ∈ cb.names,t < k) (hno : ∀ z ∈ args ++ caps,∀ o,z ≠ .ptr i o)
    (h : callA C n j (.ptr i 0 :: (args ++ (caps ++ [.ptr i 0]))) m = some (v,m')) :
    v = .bool true ∧ ∃ x E,args = [x] ∧ (∀ t,t < k → Env.at E t = if t = p then x else if t ∈ us then caps.getD (us.idxOf t) .undef else .undef) ∧
      ∃ n1 n2 e1 m1 b1 ee e2 m2 b2,n1 < n ∧ n2 < n ∧ exec C n1 ca E m = some (.normal,e1,m1) ∧ m1.look i = some b1 ∧ b1.own = true ∧ b1.cells[0]? = some (.bool true) ∧
        (∀ t,t < k → Env.at ee t = e1.at t) ∧ exec C n2 cb ee (m1.put i ⟨splice b1.cells 0 [.bool false],true⟩) = some (.normal,e2,m2) ∧
        m2.look i = some b2 ∧ b2.own = true ∧ m' = m2.put i ⟨splice b2.cells 0 [.bool true],true⟩ ∧ ∃ b0,m.look i = some b0 ∧ b0.cells ≠ [] := by
  obtain ⟨x,e',hx,_,hres⟩ := callA_inv h1 h
  simp only [wrapA] at hx
  match n,hx with
  | 0,hx => simp [exec] at hx
  | n + 1,hx =>
    obtain ⟨_,hr⟩ := x_region hx
    obtain ⟨k',z,hz,hr⟩ := r_conv hr
    obtain ⟨v3,hld,hr⟩ := r_load hr
    obtain ⟨g,first,cap,v2,m2,hg,hcall,hr⟩ := r_call hr
    simp only [Opd.ev,AV.func.injEq] at hg
    obtain ⟨rfl,rfl,rfl⟩ := hg
    rw [r_mov] at hr
    simp only [runOps,Option.some.injEq,Prod.mk.injEq] at hr
    obtain ⟨rfl,rfl⟩ := hr
    have hv : v = .bool true := by
      simp only [wrapA,results,resAll,resOf,Env.at_set,if_true,Opd.ev,Option.some.injEq] at hres
      exact hres.symm
    have hb0 : ∃ b0,m.look i = some b0 ∧ b0.cells ≠ [] := by
      simp only [Opd.ev,putD,Env.at_set] at hld
      rw [if_neg (by omega),at_of'] at hld
      obtain ⟨b0,g1,g2⟩ := load_one hld
      exact ⟨b0,g1,fun c => by rw [c] at g2; simp at g2⟩
    refine ⟨hv,?_⟩
    obtain ⟨y,hy⟩ : ∃ y,y = (AV.ptr i 0 :: (args ++ (caps ++ [.ptr i 0]))).getD (2 + us.length) .undef := ⟨_,rfl⟩
    obtain ⟨L,hL⟩ : ∃ L,L = ([] ++ (List.map (Opd.ev (putD (putD (Env.of (AV.ptr i 0 :: (args ++ (caps ++ [.ptr i 0])))) (some (2 + [p].length + us.length)) (.int .u8 (IntKind.u8.wrap z))) (some (2 + [p].length + us.length)) v3))
      (((List.range k).map fun t => cond (Nat.blt ([p].idxOf t) [p].length) (.t (1 + [p].idxOf t)) (cond (Nat.blt (us.idxOf t) us.length) (.t (1 + [p].length + us.idxOf t)) (.c .undef))) ++ [.t 0,.t (1 + [p].length + us.length)]) ++ [])) := ⟨_,rfl⟩
    rw [← hL] at hcall
    have hat : ∀ t,t < 2 + [p].length + us.length → Env.at (putD (putD (Env.of (AV.ptr i 0 :: (args ++ (caps ++ [.ptr i 0])))) (some (2 + [p].length + us.length)) (.int .u8 (IntKind.u8.wrap z))) (some (2 + [p].length + us.length)) v3) t = (AV.ptr i 0 :: (args ++ (caps ++ [.ptr i 0]))).getD t .undef := fun t ht => by
      simp only [putD,Env.at_set]
      rw [if_neg (by omega),if_neg (by omega),at_of']
    have hLt : ∀ t,t < k → L.getD t .undef = if t = p then (AV.ptr i 0 :: (args ++ (caps ++ [.ptr i 0]))).getD 1 .undef else if t ∈ us then (AV.ptr i 0 :: (args ++ (caps ++ [.ptr i 0]))).getD (2 + us.idxOf t) .undef else .undef := fun t ht => by
      rw [hL]
      simp only [List.nil_append,List.append_nil,List.map_append,List.map_map]
      rw [List.getD_eq_getElem?_getD,List.getElem?_append_left (by simp; omega),List.getElem?_map,List.getElem?_range ht]
      simp only [Option.map_some,Option.getD_some,Function.comp]
      by_cases hp : t = p
      · subst hp
        rw [if_pos rfl,show [t].idxOf t = 0 by simp,show Nat.blt 0 [t].length = true from rfl]
        simp only [cond_true]
        exact hat 1 (by simp; omega)
      · rw [if_neg hp,show [p].idxOf t = 1 by rw [List.idxOf_cons,show (p == t) = false by simpa using Ne.symm hp]; rfl,show Nat.blt 1 [p].length = false from rfl]
        simp only [cond_false]
        by_cases hu : t ∈ us
        · have hi := List.idxOf_lt_length_iff.2 hu
          rw [if_pos hu,show Nat.blt (us.idxOf t) us.length = true by simpa using hi]
          simp only [cond_true]
          exact hat (1 + [p].length + us.idxOf t) (by omega)
        · rw [if_neg hu,show Nat.blt (us.idxOf t) us.length = false by rw [← Bool.not_eq_true,Nat.blt_eq]; exact fun c => hu (List.idxOf_lt_length_iff.1 c)]
          rfl
    have hLk : L.getD k .undef = .ptr i 0 := by
      rw [hL]
      simp only [List.nil_append,List.append_nil,List.map_append,List.map_map]
      rw [List.getD_eq_getElem?_getD,List.getElem?_append_right (by simp)]
      simp only [List.length_map,List.length_range,Nat.sub_self,List.map_cons,List.getElem?_cons_zero,Option.getD_some]
      exact hat 0 (by omega)
    have hLk1 : L.getD (k + 1) .undef = y := by
      rw [hL,hy]
      simp only [List.nil_append,List.append_nil,List.map_append,List.map_map]
      rw [List.getD_eq_getElem?_getD,List.getElem?_append_right (by simp)]
      simp only [List.length_map,List.length_range,show k + 1 - k = 1 by omega,List.map_cons,List.getElem?_cons_succ,List.getElem?_cons_zero,Option.getD_some]
      exact hat (1 + [p].length + us.length) (by omega)
    obtain ⟨x2,e2',hx2,hxx,_⟩ := callA_inv h2 hcall
    obtain ⟨n1,n2,e1,m1,b1,ee,e2,m2',b2,q1,q2,q3,q4,q5,q6,q7,q8,q9,q10,q11,q12⟩ := round_body (y := y) hx2 hxx hsa hsb (by rw [at_of']; exact hLk) (by rw [at_of']; exact hLk1) hna hnb
    obtain ⟨o,hyo⟩ := load_other q4 q7 (by simp)
    have hargs : ∃ x,args = [x] := by
      rw [hyo,show 2 + us.length = (1 + us.length) + 1 by omega,List.getD_cons_succ,List.getD_eq_getElem?_getD] at hy
      clear hL hat hLt hLk hLk1 hcall h hz hx hres hld
      rcases args with _ | ⟨x0,_ | ⟨x1,r⟩⟩
      · rw [List.nil_append,List.getElem?_eq_none (by simp; omega)] at hy
        cases hy
      · exact ⟨x0,rfl⟩
      · exfalso
        rw [← List.append_assoc,List.getElem?_append_left (by simp; omega)] at hy
        cases hg : ((x0 :: x1 :: r) ++ caps)[1 + us.length]? with
        | none => rw [hg] at hy; cases hy
        | some z0 =>
          rw [hg] at hy
          exact hno z0 (List.mem_of_getElem? hg) o hy.symm
    obtain ⟨x,rfl⟩ := hargs
    have hye : y = .ptr i 0 := by
      rw [hy,show 2 + us.length = (us.length + 1) + 1 by omega,List.getD_cons_succ,List.singleton_append,List.getD_cons_succ,List.getD_eq_getElem?_getD,List.getElem?_append_right (by omega),hl,Nat.sub_self]
      rfl
    refine ⟨x,Env.of L,rfl,fun t ht => ?_,n1,n2,e1,m1,b1,ee,e2,m2',b2,by omega,by omega,q3,q5,q6,?_,q8,q9,q10,q11,q12,hb0⟩
    · rw [at_of',hLt t ht]
      by_cases hp : t = p
      · rw [if_pos hp,if_pos hp]; rfl
      · rw [if_neg hp,if_neg hp]
        by_cases hu : t ∈ us
        · have hi := List.idxOf_lt_length_iff.2 hu
          rw [if_pos hu,if_pos hu,show 2 + us.idxOf t = (us.idxOf t + 1) + 1 by omega,List.getD_cons_succ,List.singleton_append,List.getD_cons_succ,List.getD_eq_getElem?_getD,List.getElem?_append_left (by omega),List.getD_eq_getElem?_getD]
        · rw [if_neg hu,if_neg hu]
    · rw [hye] at q4
      obtain ⟨b1',g1,g2⟩ := load_one q4
      rw [q5] at g1; cases g1
      exact g2
end Go.Am
