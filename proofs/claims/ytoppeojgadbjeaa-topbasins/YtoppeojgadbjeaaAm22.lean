/-
  THE ABSTRACT MACHINE, 22: what the functions of a range over a function do, by the abstract machine alone.
-/
import Derived.Test.YtoppeojgadbjeaaAm9
set_option linter.unusedVariables false
set_option linter.unusedSimpArgs false
namespace Go.Am
theorem at_ofFrom' : ∀ (vs : List AV) (n : Nat) (e : Env) (t : Nat),(Env.ofFrom n vs e).at t = if n ≤ t ∧ t < n + vs.length then vs.getD (t - n) .undef else e.at t
  | [],n,e,t => by simp [Env.ofFrom]; intro h1 h2; omega
  | v :: r,n,e,t => by
    rw [Env.ofFrom,at_ofFrom' r (n + 1)]
    simp only [List.length_cons]
    by_cases h : n + 1 ≤ t ∧ t < n + 1 + r.length
    · rw [if_pos h,if_pos (by omega),show t - n = (t - (n + 1)) + 1 by omega]; rfl
    · rw [if_neg h,Env.at_set]
      by_cases ht : t = n
      · subst ht; rw [if_pos rfl,if_pos (by omega),Nat.sub_self]; rfl
      · rw [if_neg ht,if_neg (by omega)]
theorem at_of' (vs : List AV) (t : Nat) : (Env.of vs).at t = vs.getD t .undef := by
  rw [Env.of,at_ofFrom']
  by_cases h : t < vs.length
  · rw [if_pos (by omega),Nat.sub_zero]
  · rw [if_neg (by omega)]
    rw [List.getD_eq_getElem?_getD,List.getElem?_eq_none (by omega)]
    rfl
theorem caps_ev {F p : AV} {caps : List AV} {e : Env} (h : ∀ t,t < 1 + caps.length → e.at t = (F :: caps).getD t .undef) :
    ((List.range caps.length).map fun i => Opd.t (1 + i)).map (Opd.ev e) = caps := by
  apply List.ext_getElem
  · simp
  · intro i h1 h2
    simp only [List.length_map,List.length_range] at h1
    simp only [List.getElem_map,List.getElem_range,Opd.ev]
    rw [h (1 + i) (by omega),show 1 + i = i + 1 by omega]
    simp [List.getD_eq_getElem?_getD,h2]
section
variable {cf : CallF} {base : Nat} {rest : List AOper} {e : Env} {m : Mem} {h : List Mem} {d : Option Nat}
theorem r_box {A : Nat} {x : Opd} : runOps cf base (stepO (some A) (.box x) :: rest) e m h = runOps cf base rest (e.set A (.ptr m.next 0)) (m.alloc ⟨(x.ev e).cells,true⟩) h := rfl
theorem r_mkF {A f : Nat} {xs ys : List Opd} : runOps cf base (stepO (some A) (.mkF f xs ys) :: rest) e m h = runOps cf base rest (e.set A (.func f (xs.map (Opd.ev e)) (ys.map (Opd.ev e)))) m h := rfl
theorem r_mov {A : Nat} {x : Opd} : runOps cf base (stepO (some A) (.mov x) :: rest) e m h = runOps cf base rest (e.set A (x.ev e)) m h := rfl
theorem r_call {f : Opd} {l : List Opd} {y : Env × Mem} (hh : runOps cf base (stepO d (.call f l) :: rest) e m h = some y) :
    ∃ g first cap v m',f.ev e = .func g first cap ∧ cf g (first ++ (l.map (Opd.ev e) ++ cap)) m = some (v,m') ∧ runOps cf base rest (putD e d v) m' (m' :: h) = some y := by
  have hh' : (match f.ev e with
          | .func g first cap => match cf g (first ++ (l.map (Opd.ev e) ++ cap)) m with
            | some (v,m') => runOps cf base rest (putD e d v) m' (m' :: h)
            | none => none
          | _ => none) = some y := hh
  split at hh'
  · rename_i g first cap hf
    split at hh'
    · rename_i v m' hc
      exact ⟨g,first,cap,v,m',hf,hc,hh'⟩
    · cases hh'
  · cases hh'
theorem r_load {n : Nat} {g : Bool} {x : Opd} {y : Env × Mem} (hh : runOps cf base (stepO d (.load g n x) :: rest) e m h = some y) :
    ∃ v,loadAt m g n (x.ev e) = some v ∧ runOps cf base rest (putD e d v) m h = some y := by
  have hh' : (match (match loadAt m g n (x.ev e) with | some v => some (v,m) | none => none : Option (AV × Mem)) with | some (v,m') => runOps cf base rest (putD e d v) m' h | none => none) = some y := hh
  split at hh'
  · rename_i v m' hl
    split at hl
    · rename_i v' hv
      cases hl
      exact ⟨_,hv,hh'⟩
    · cases hl
  · cases hh'
theorem r_store {n : Nat} {a x : Opd} {y : Env × Mem} (hh : runOps cf base (stepO d (.store n a x) :: rest) e m h = some y) :
    ∃ m',storeAt m n (a.ev e) (x.ev e) = some m' ∧ runOps cf base rest (putD e d .undef) m' h = some y := by
  have hh' : (match (match storeAt m n (a.ev e) (x.ev e) with | some m' => some (.undef,m') | none => none : Option (AV × Mem)) with | some (v,m') => runOps cf base rest (putD e d v) m' h | none => none) = some y := hh
  split at hh'
  · rename_i v m' hl
    split at hl
    · rename_i v' hv
      cases hl
      exact ⟨_,hv,hh'⟩
    · cases hl
  · cases hh'
theorem r_conv {k : IntKind} {x : Opd} {y : Env × Mem} (hh : runOps cf base (stepO d (.conv k x) :: rest) e m h = some y) :
    ∃ k' n,x.ev e = .int k' n ∧ runOps cf base rest (putD e d (.int k (k.wrap n))) m h = some y := by
  have hh' : (match (match x.ev e with | .int _ n => some (.int k (k.wrap n),m) | _ => none : Option (AV × Mem)) with | some (v,m') => runOps cf base rest (putD e d v) m' h | none => none) = some y := hh
  split at hh'
  · rename_i v m' hl
    split at hl
    · rename_i k' n' hv
      cases hl
      exact ⟨_,_,hv,hh'⟩
    · cases hl
  · cases hh'
end
theorem x_region {C : Prog} {k : Nat} {ops : List AOper} {e : Env} {m : Mem} {x : AExit} {e' : Env} {m' : Mem} (h : exec C (k + 1) (.region 0 ops) e m = some (x,e',m')) : x = .normal ∧ runOps (callA C k) m.next ops e m [m] = some (e',m') := by
  have h' : (match runOps (callA C k) m.next ops e m [m] with | some (e',m') => some (AExit.normal,e',m') | none => none) = some (x,e',m') := h
  split at h'
  · rename_i e1 m1 hr
    simp only [Option.some.injEq,Prod.mk.injEq] at h'
    obtain ⟨rfl,rfl,rfl⟩ := h'
    exact ⟨rfl,hr⟩
  · cases h'
theorem store_one {m m' : Mem} {i : Nat} {b : Bool} (h : storeAt m 1 (.ptr i 0) (.bool b) = some m') : ∃ bl,m.look i = some bl ∧ bl.own = true ∧ m' = m.put i ⟨splice bl.cells 0 [.bool b],true⟩ := by
  simp only [storeAt,AV.cells] at h
  split at h
  · rename_i bl hb
    cases ho : bl.own
    · rw [ho] at h; cases h
    · rw [ho] at h
      simp only [Bool.true_and,Bool.cond_eq_ite] at h
      split at h
      · simp only [Option.some.injEq] at h
        exact ⟨bl,hb,ho,h.symm⟩
      · cases h
  · cases h
theorem load_one {m : Mem} {i o : Nat} {v : AV} (h : loadAt m false 1 (.ptr i o) = some v) : ∃ bl,m.look i = some bl ∧ bl.cells[o]? = some v := by
  simp only [loadAt,cond_false] at h
  split at h
  · rename_i bl hb; exact ⟨bl,hb,h⟩
  · cases h
theorem help_run {C : Prog} {n q : Nat} {F : AV} {caps : List AV} {m m' : Mem} {v : AV} (hC : C (q + 1000000) = some (helpA q caps.length)) (h : callA C n (q + 1000000) (F :: caps) m = some (v,m')) :
    ∃ n2 g first cap v2 m2 b,n2 < n ∧ F = .func g first cap ∧ callA C n2 g (first ++ ([.func q [.ptr m.next 0] (caps ++ [.ptr m.next 0])] ++ cap)) (m.alloc ⟨[.bool true],true⟩) = some (v2,m2) ∧
      m2.look m.next = some b ∧ b.own = true ∧ b.cells[0]? = some (.bool true) ∧ m' = m2.put m.next ⟨splice b.cells 0 [.bool false],true⟩ := by
  unfold callA at h
  rw [hC] at h
  simp only at h
  have hex : ∃ x e',exec C n (helpA q caps.length).body (Env.of (F :: caps)) m = some (x,e',m') := by
    split at h
    · rename_i e1 m1 hx
      split at h <;> cases h
      exact ⟨_,_,hx⟩
    · rename_i e1 m1 hx
      split at h <;> cases h
      exact ⟨_,_,hx⟩
    · cases h
  obtain ⟨x,e',hx⟩ := hex
  simp only [helpA] at hx
  match n,hx with
  | 0,hx => simp [exec] at hx
  | 1,hx => simp [exec] at hx
  | n2 + 2,hx =>
    rw [exec] at hx
    have e0 : ∀ t,t < 1 + caps.length → (Env.of (F :: caps)).at t = (F :: caps).getD t .undef := fun t _ => at_of' _ t
    generalize hE0 : Env.of (F :: caps) = E0 at hx e0
    have hF : E0.at 0 = F := by rw [e0 0 (by omega)]; rfl
    split at hx
    · rename_i e1 m1 hx1
      obtain ⟨_,hr⟩ := x_region hx1
      rw [r_box,r_mkF] at hr
      have hcaps := caps_ev (p := F) (F := F) (caps := caps) (e := E0.set (1 + caps.length) (.ptr m.next 0)) fun t ht => by rw [Env.at_set,if_neg (by omega)]; exact e0 t ht
      obtain ⟨g,first,cap,v2,m2,hf,hcall,hr⟩ := r_call hr
      obtain ⟨v3,hl,hr⟩ := r_load hr
      simp only [List.map_append,List.map_cons,List.map_nil,hcaps] at hf hcall hl hr
      simp only [Opd.ev,Env.at_set,if_true,putD] at hf hcall hl hr
      rw [if_neg (by omega),if_neg (by omega),hF] at hf
      rw [if_neg (by omega)] at hl
      obtain ⟨b,hb,hb0⟩ := load_one hl
      simp only [runOps,Option.some.injEq,Prod.mk.injEq] at hr
      obtain ⟨rfl,rfl⟩ := hr
      have hx2 : (match Env.at (((E0.set (1 + caps.length) (.ptr m.next 0)).set (2 + caps.length) (.func q [.ptr m.next 0] (caps ++ [.ptr m.next 0]))).set (3 + caps.length) v3) (3 + caps.length) with
        | .bool true => exec C n2 (.region 0 [stepO none (.store 1 (.t (1 + caps.length)) (.c (.bool false)))]) (((E0.set (1 + caps.length) (.ptr m.next 0)).set (2 + caps.length) (.func q [.ptr m.next 0] (caps ++ [.ptr m.next 0]))).set (3 + caps.length) v3) m2
        | .bool false => exec C n2 .fail (((E0.set (1 + caps.length) (.ptr m.next 0)).set (2 + caps.length) (.func q [.ptr m.next 0] (caps ++ [.ptr m.next 0]))).set (3 + caps.length) v3) m2
        | _ => none) = some (x,e',m') := hx
      rw [Env.at_set,if_pos rfl] at hx2
      split at hx2
      · match n2,hx2 with
        | 0,hx2 => simp [exec] at hx2
        | n3 + 1,hx2 =>
          obtain ⟨_,hr⟩ := x_region hx2
          obtain ⟨m4,hs,hr⟩ := r_store hr
          simp only [Opd.ev,Env.at_set] at hs
          rw [if_neg (by omega),if_neg (by omega),if_pos trivial] at hs
          obtain ⟨b',hb',ho,rfl⟩ := store_one hs
          rw [hb] at hb'; cases hb'
          simp only [runOps,Option.some.injEq,Prod.mk.injEq] at hr
          exact ⟨n3 + 1,g,first,cap,v2,m2,b,by omega,hf,hcall,hb,ho,hb0,hr.2.symm⟩
      · match n2,hx2 with
        | 0,hx2 => simp [exec] at hx2
        | n3 + 1,hx2 => simp [exec] at hx2
      · cases hx2
    · rename_i r hnr
      obtain ⟨rfl,_⟩ := x_region hx
      exact absurd hx (hnr _ _)
theorem wrap_conv {C : Prog} {n j k : Nat} {ps us : List Nat} {y : AV} {r : List AV} {p : AV} {m m' : Mem} {v : AV} (hC : C j = some (wrapA j k ps us)) (h : callA C n j (p :: y :: r) m = some (v,m')) : ∃ k' z,y = .int k' z := by
  unfold callA at h
  rw [hC] at h
  simp only at h
  have hex : ∃ x e' m1,exec C n (wrapA j k ps us).body (Env.of (p :: y :: r)) m = some (x,e',m1) := by
    split at h
    · rename_i e1 m1 hx; exact ⟨_,_,_,hx⟩
    · rename_i e1 m1 hx; exact ⟨_,_,_,hx⟩
    · cases h
  obtain ⟨x,e',m1,hx⟩ := hex
  simp only [wrapA] at hx
  match n,hx with
  | 0,hx => simp [exec] at hx
  | n + 1,hx =>
    obtain ⟨_,hr⟩ := x_region hx
    obtain ⟨k',z,hy,_⟩ := r_conv hr
    rw [Opd.ev,at_of'] at hy
    exact ⟨k',z,hy⟩
variable [Glo]
omit [Glo] in
theorem cRound_some {P : Program} {j : Nat} {R : Rnd} (hr : rndOf P j = some R) {a b c : AFunc} (h : cRound P j = some (a,b,c)) :
    ∃ ca cb,cCode P false 0 R.k R.assign = some ca ∧ cCode P false 0 R.k R.body = some cb ∧ ca.stays = true ∧ cb.stays = true ∧ R.ps.length = 1 ∧ (∀ t ∈ R.us,t < R.k) ∧ (∀ t ∈ R.ps,t < R.k) ∧
      a = wrapA j R.k R.ps R.us ∧ b = roundA R.k ca cb ∧ c = helpA j R.us.length := by
  unfold cRound at h
  rw [hr] at h
  simp only at h
  split at h
  · rename_i ca cb h1 h2
    simp only [Bool.cond_eq_ite] at h
    split at h
    · rename_i hk
      simp only [Bool.and_eq_true,List.all_eq_true,Nat.blt_eq,Nat.beq_eq_true_eq] at hk
      simp only [Option.some.injEq,Prod.mk.injEq] at h
      exact ⟨ca,cb,h1,h2,hk.1,hk.2.1,Nat.eq_of_beq_eq_true hk.2.2.1,hk.2.2.2.1,hk.2.2.2.2,h.1.symm,h.2.1.symm,h.2.2.symm⟩
    · cases h
  · cases h
end Go.Am
