/-
  THE LIST MACHINE, 9: its answers without a number of steps; the equations by which they are told.
-/
import Derived.Test.YtoppeojgadbjeaaLm8
set_option linter.unusedVariables false
namespace Go.Am
variable [Glo]
theorem runL_none {cf : CallL} {o : AOper} {l : List AOper} {e : LEnv} {m : LMem} {k : Trk} (hw : wantL e o.guard = none) : runL cf (o :: l) e m k = none := by simp only [runL,hw]
theorem runL_not {cf : CallL} {o : AOper} {l : List AOper} {e : LEnv} {m : LMem} {k : Trk} (hw : wantL e o.guard = some false) : runL cf (o :: l) e m k = runL cf l (putL e o.dst (.tup [])) m ((k.putNew o.dst true).up o.eff none) := by simp only [runL,hw]
def callTrk (md : Mode) (k : Trk) : Trk := match md with | .W => ⟨k.start,true,k.tch,k.new,k.cnt,k.hist⟩ | _ => k
theorem runL_call {cf : CallL} {o : AOper} {l : List AOper} {e : LEnv} {m : LMem} {k : Trk} (hw : wantL e o.guard = some true) {f : Opd} {args : List Opd} (hop : o.op = .call f args) :
    runL cf (o :: l) e m k = match evL e f with
      | .func g first cap => match cf g (first ++ (args.map (evL e) ++ cap)) m with
        | some (md,v,m') => runL cf l (putL e o.dst v) m' (((callTrk md k).putNew o.dst true).up true (some m'))
        | none => none
      | _ => none := by
  cases o with
  | mk dst op guard back slot eff =>
    simp only at hop hw
    subst hop
    simp only [runL,hw]
    rfl
theorem runL_op {cf : CallL} {o : AOper} {l : List AOper} {e : LEnv} {m : LMem} {k : Trk} (hw : wantL e o.guard = some true) (hn : ∀ f args,o.op ≠ .call f args) (hz : ∀ f args,o.op ≠ .callZ f args) :
    runL cf (o :: l) e m k = cond (loadFine k e m o.back o.op) (match stepL e m o.op with
          | some (v,m') => runL cf l (putL e o.dst v) m' (((k.touch e o.op).putNew o.dst (k.gives e o.op)).up o.eff none)
          | none => none) none := by
  cases o with
  | mk dst op guard back slot eff =>
    simp only at hw
    cases op <;> first | exact absurd rfl (hn _ _) | exact absurd rfl (hz _ _) | (simp only [runL,hw]; rfl)
omit [Glo] in
theorem call_or_notL (x : AOp) : (∃ f l,x = .call f l) ∨ (∃ f l,x = .callZ f l) ∨ ((∀ f l,x ≠ .call f l) ∧ ∀ f l,x ≠ .callZ f l) := by cases x <;> simp
theorem runL_callZ {cf : CallL} {o : AOper} {l : List AOper} {e : LEnv} {m : LMem} {k : Trk} (hw : wantL e o.guard = some true) {f : Opd} {args : List Opd} (hop : o.op = .callZ f args) :
    runL cf (o :: l) e m k = match evL e f with
      | .func g first cap => match branchL cf g first cap (args.map (evL e)) m with
        | some (v,m') => runL cf l (putL e o.dst v) m' (((⟨k.start,true,k.tch,k.new,k.cnt,k.hist⟩ : Trk).putNew o.dst true).up true (some m'))
        | none => none
      | _ => none := by
  cases o with
  | mk dst op guard back slot eff =>
    simp only at hop hw
    subst hop
    simp only [runL,hw]
    rfl
omit [Glo] in
theorem branchL_mono {cf cf' : CallL} (h : ∀ f a m r,cf f a m = some r → cf' f a m = some r) {g : Nat} {first cap args : List LV} {m : LMem} {r : LV × LMem} (hr : branchL cf g first cap args m = some r) : branchL cf' g first cap args m = some r := by
  unfold branchL at hr ⊢
  split at hr
  · rename_i n b s x q
    cases hk : (Nat.blt g 100000 && awayL m s x)
    · rw [hk] at hr; cases hr
    · rw [hk] at hr
      simp only [cond_true] at hr ⊢
      split at hr
      · rename_i hap
        split at hr
        · rename_i hc
          simp only [h _ _ _ _ hc]
          exact hr
        · cases hr
      · cases hr
  · cases hr
omit [Glo] in
theorem branchL_once {cf : CallL} {g : Nat} {first cap args : List LV} {m : LMem} {r : LV × LMem} (hr : branchL cf g first cap args m = some r) : ∃ a m1 q,cf g a m1 = some q ∧ ∀ cf' : CallL,cf' g a m1 = some q → branchL cf' g first cap args m = some r := by
  unfold branchL at hr
  split at hr
  · rename_i n b s x q
    cases hk : (Nat.blt g 100000 && awayL m s x)
    · rw [hk] at hr; cases hr
    · rw [hk] at hr
      simp only [cond_true] at hr
      split at hr
      · rename_i hap
        split at hr
        · rename_i hc
          refine ⟨_,_,_,hc,fun cf' hc' => ?_⟩
          simp only [branchL,hk,cond_true,hap,hc']
          exact hr
        · cases hr
      · cases hr
  · cases hr
theorem runL_mono {cf cf' : CallL} (h : ∀ f a m r,cf f a m = some r → cf' f a m = some r) : ∀ (l : List AOper) (e : LEnv) (m : LMem) (k : Trk) (r : LEnv × LMem),runL cf l e m k = some r → runL cf' l e m k = some r
  | [],e,m,k,r,hr => hr
  | o :: l, e,m,k,r,hr => by
    cases hw : wantL e o.guard with
    | none => rw [runL_none hw] at hr; cases hr
    | some b =>
      cases b with
      | false =>
        rw [runL_not hw] at hr ⊢
        exact runL_mono h l _ _ _ _ hr
      | true =>
        rcases call_or_notL o.op with ⟨f,args,hop⟩ | ⟨f,args,hop⟩ | ⟨hn,hz⟩
        · rw [runL_call hw hop] at hr ⊢
          cases hf : evL e f <;> rw [hf] at hr <;> first | cases hr | skip
          rename_i g first cap
          simp only at hr ⊢
          cases hc : cf g (first ++ (args.map (evL e) ++ cap)) m with
          | none => rw [hc] at hr; cases hr
          | some q =>
            obtain ⟨md,v,m'⟩ := q
            rw [hc] at hr
            rw [h _ _ _ _ hc]
            exact runL_mono h l _ _ _ _ hr
        · rw [runL_callZ hw hop] at hr ⊢
          cases hf : evL e f <;> rw [hf] at hr <;> first | cases hr | skip
          rename_i g first cap
          simp only at hr ⊢
          cases hc : branchL cf g first cap (args.map (evL e)) m with
          | none => rw [hc] at hr; cases hr
          | some q =>
            obtain ⟨v,m'⟩ := q
            rw [hc] at hr
            rw [branchL_mono h hc]
            exact runL_mono h l _ _ _ _ hr
        · rw [runL_op hw hn hz] at hr ⊢
          cases hq : loadFine k e m o.back o.op
          · rw [hq] at hr; cases hr
          · rw [hq] at hr
            simp only [cond_true] at hr ⊢
            cases hst : stepL e m o.op with
            | none => rw [hst] at hr; cases hr
            | some q =>
              rw [hst] at hr
              exact runL_mono h l _ _ _ _ hr
omit [Glo] in
theorem callMode_mono {run run' : List LV → LMem → Option (LV × LMem)} (h : ∀ a m r,run a m = some r → run' a m = some r) {md : Mode} {args : List LV} {m : LMem} {r : Mode × LV × LMem} (hr : callMode run md args m = some r) : callMode run' md args m = some r := by
  cases md <;> simp only [callMode] at hr ⊢
  · split at hr
    · split at hr
      · rename_i hx; rw [h _ _ _ hx]; exact hr
      · cases hr
    · cases hr
  · split at hr
    · split at hr
      · rename_i hx; rw [h _ _ _ hx]; exact hr
      · cases hr
    · cases hr
  · split at hr
    · rename_i hx; rw [h _ _ _ hx]; exact hr
    · cases hr
  · split at hr
    · rename_i hx; rw [h _ _ _ hx]; exact hr
    · cases hr
omit [Glo] in
theorem callMode_once {run : List LV → LMem → Option (LV × LMem)} {md : Mode} {args : List LV} {m : LMem} {r : Mode × LV × LMem} (hr : callMode run md args m = some r) :
    ∃ a m1 v,run a m1 = some v ∧ ∀ run',run' a m1 = some v → callMode run' md args m = some r := by
  cases md <;> simp only [callMode] at hr ⊢
  · split at hr
    · rename_i vs ids hv
      split at hr
      · rename_i v m1 hx; exact ⟨_,_,_,hx,fun run' h' => by simp only [h']; exact hr⟩
      · cases hr
    · cases hr
  · split at hr
    · rename_i vs ids hv
      split at hr
      · rename_i v m1 hx; exact ⟨_,_,_,hx,fun run' h' => by simp only [h']; exact hr⟩
      · cases hr
    · cases hr
  · split at hr
    · rename_i v m1 hx; exact ⟨_,_,_,hx,fun run' h' => by simp only [h']; exact hr⟩
    · cases hr
  · split at hr
    · rename_i v m1 hx; exact ⟨_,_,_,hx,fun run' h' => by simp only [h']; exact hr⟩
    · cases hr
omit [Glo] in
theorem retL_mono {rs : List ARes} {x y : Option (AExit × LEnv × LMem)} (h : ∀ r,x = some r → y = some r) {r : LV × LMem} (hr : retL rs x = some r) : retL rs y = some r := by
  cases x with
  | none => simp [retL] at hr
  | some q => rw [h q rfl]; exact hr
omit [Glo] in
theorem retL_some {rs : List ARes} {x : Option (AExit × LEnv × LMem)} {r : LV × LMem} (hr : retL rs x = some r) : ∃ q,x = some q := by
  cases x with
  | none => simp [retL] at hr
  | some q => exact ⟨q,rfl⟩
variable {C : LProg}
theorem execL_succ : ∀ (n : Nat) (c : LCode) (e : LEnv) (m : LMem) (r : AExit × LEnv × LMem),execL C n c e m = some r → execL C (n + 1) c e m = some r
  | 0,c,e,m,r,h => by simp [execL] at h
  | n + 1,c,e,m,r,h => by
    have hcall : ∀ f a m r,callL C n f a m = some r → callL C (n + 1) f a m = some r := by
      intro f a m r hr
      unfold callL at hr ⊢
      split at hr
      · exact callMode_mono (fun a m r h => retL_mono (fun q hq => execL_succ n _ _ _ _ hq) h) hr
      · cases hr
    cases c with
    | skip => exact h
    | exit id ks => exact h
    | ret ks => exact h
    | fail => exact h
    | region q ks ops =>
      have h' : (match runL (callL C n) ops e m ⟨m.length,false,[],[],1,[some m]⟩ with | some (e',m') => some (AExit.normal,LEnv.keep e' ks,m') | none => none) = some r := h
      show (match runL (callL C (n + 1)) ops e m ⟨m.length,false,[],[],1,[some m]⟩ with | some (e',m') => some (AExit.normal,LEnv.keep e' ks,m') | none => none) = some r
      split at h'
      · rename_i hr
        rw [runL_mono hcall _ _ _ _ _ hr]
        exact h'
      · cases h'
    | seq a b =>
      rw [execL] at h ⊢
      split at h
      · rename_i hx
        rw [execL_succ n _ _ _ _ hx]
        exact execL_succ n _ _ _ _ h
      · rename_i hn
        rw [execL_succ n _ _ _ _ h]
        split
        · rename_i hx; cases hx; exact absurd h (hn _ _)
        · rfl
    | cond q a b =>
      rw [execL] at h ⊢
      split at h
      · exact execL_succ n _ _ _ _ h
      · exact execL_succ n _ _ _ _ h
      · cases h
    | block id b =>
      rw [execL] at h ⊢
      split at h
      · rename_i hx
        rw [execL_succ n _ _ _ _ hx]
        exact h
      · rename_i hn
        rw [execL_succ n _ _ _ _ h]
        split
        · rename_i hx; cases hx; exact absurd h (hn _ _ _)
        · rfl
    | loop tr ks b =>
      rw [execL] at h ⊢
      split at h
      · rename_i hx
        rw [execL_succ n _ _ _ _ hx]
        exact execL_succ n _ _ _ _ h
      · rename_i hn
        rw [execL_succ n _ _ _ _ h]
        split
        · rename_i hx; cases hx; exact absurd h (hn _ _)
        · rfl
theorem execL_mono {n k : Nat} (hk : n ≤ k) {c : LCode} {e : LEnv} {m : LMem} {r : AExit × LEnv × LMem} (h : execL C n c e m = some r) : execL C k c e m = some r := by
  induction hk with
  | refl => exact h
  | step _ ih => exact execL_succ _ _ _ _ _ ih
theorem callL_mono {n k : Nat} (hk : n ≤ k) {f : Nat} {a : List LV} {m : LMem} {r : Mode × LV × LMem} (hr : callL C n f a m = some r) : callL C k f a m = some r := by
  unfold callL at hr ⊢
  split at hr
  · exact callMode_mono (fun a m r h => retL_mono (fun q hq => execL_mono hk hq) h) hr
  · cases hr
open Classical in
noncomputable def limit {α : Type} (f : Nat → Option α) : Option α := if h : ∃ n r,f n = some r then f (Classical.choose h) else none
omit [Glo] in
theorem limit_some {α : Type} {f : Nat → Option α} (hm : ∀ n k r,n ≤ k → f n = some r → f k = some r) (r : α) : limit f = some r ↔ ∃ n,f n = some r := by
  unfold limit
  constructor
  · intro h
    split at h
    · exact ⟨_,h⟩
    · cases h
  · rintro ⟨n,hn⟩
    have hex : ∃ n r,f n = some r := ⟨n,r,hn⟩
    rw [dif_pos hex]
    obtain ⟨r',hr'⟩ := Classical.choose_spec hex
    have h1 := hm _ (max n (Classical.choose hex)) r' (Nat.le_max_right _ _) hr'
    have h2 := hm _ (max n (Classical.choose hex)) r (Nat.le_max_left _ _) hn
    rw [h1] at h2
    rw [hr',h2]
omit [Glo] in
theorem opt_ext {α : Type} {x y : Option α} (h : ∀ r,x = some r ↔ y = some r) : x = y := by
  cases x with
  | some a => exact ((h a).1 rfl).symm
  | none =>
    cases y with
    | none => rfl
    | some b => exact (h b).2 rfl
noncomputable def exF (C : LProg) (c : LCode) (e : LEnv) (m : LMem) : Option (AExit × LEnv × LMem) := limit fun n => execL C n c e m
noncomputable def clF (C : LProg) (f : Nat) (a : List LV) (m : LMem) : Option (Mode × LV × LMem) := limit fun n => callL C n f a m
theorem exF_some {c : LCode} {e : LEnv} {m : LMem} {r : AExit × LEnv × LMem} : exF C c e m = some r ↔ ∃ n,execL C n c e m = some r := limit_some (fun n k r hk h => execL_mono hk h) r
theorem clF_some {f : Nat} {a : List LV} {m : LMem} {r : Mode × LV × LMem} : clF C f a m = some r ↔ ∃ n,callL C n f a m = some r := limit_some (fun n k r hk h => callL_mono hk h) r
theorem run_limit : ∀ (l : List AOper) (e : LEnv) (m : LMem) (k : Trk) (r : LEnv × LMem),runL (clF C) l e m k = some r → ∃ n,runL (callL C n) l e m k = some r
  | [],e,m,k,r,hr => ⟨0,hr⟩
  | o :: l, e,m,k,r,hr => by
    cases hw : wantL e o.guard with
    | none => rw [runL_none hw] at hr; cases hr
    | some b =>
      cases b with
      | false =>
        rw [runL_not hw] at hr
        obtain ⟨n,hn⟩ := run_limit l _ _ _ _ hr
        exact ⟨n,by rw [runL_not hw]; exact hn⟩
      | true =>
        rcases call_or_notL o.op with ⟨f,args,hop⟩ | ⟨f,args,hop⟩ | ⟨hn,hz⟩
        · rw [runL_call hw hop] at hr
          cases hf : evL e f <;> rw [hf] at hr <;> first | cases hr | skip
          rename_i g first cap
          simp only at hr
          cases hc : clF C g (first ++ (args.map (evL e) ++ cap)) m with
          | none => rw [hc] at hr; cases hr
          | some q =>
            obtain ⟨md,v,m'⟩ := q
            rw [hc] at hr
            obtain ⟨n1,h1⟩ := clF_some.1 hc
            obtain ⟨n2,h2⟩ := run_limit l _ _ _ _ hr
            refine ⟨max n1 n2,?_⟩
            rw [runL_call hw hop,hf]
            simp only [callL_mono (Nat.le_max_left n1 n2) h1]
            exact runL_mono (fun f a m r h => callL_mono (Nat.le_max_right n1 n2) h) _ _ _ _ _ h2
        · rw [runL_callZ hw hop] at hr
          cases hf : evL e f <;> rw [hf] at hr <;> first | cases hr | skip
          rename_i g first cap
          simp only at hr
          cases hc : branchL (clF C) g first cap (args.map (evL e)) m with
          | none => rw [hc] at hr; cases hr
          | some q =>
            obtain ⟨v,m'⟩ := q
            rw [hc] at hr
            obtain ⟨a0,m0,q0,hq0,hq1⟩ := branchL_once hc
            obtain ⟨n1,h1⟩ := clF_some.1 hq0
            obtain ⟨n2,h2⟩ := run_limit l _ _ _ _ hr
            refine ⟨max n1 n2,?_⟩
            rw [runL_callZ hw hop,hf]
            simp only [hq1 _ (callL_mono (Nat.le_max_left n1 n2) h1)]
            exact runL_mono (fun f a m r h => callL_mono (Nat.le_max_right n1 n2) h) _ _ _ _ _ h2
        · rw [runL_op hw hn hz] at hr
          cases hq : loadFine k e m o.back o.op
          · rw [hq] at hr; cases hr
          · rw [hq] at hr
            simp only [cond_true] at hr
            cases hst : stepL e m o.op with
            | none => rw [hst] at hr; cases hr
            | some q =>
              rw [hst] at hr
              obtain ⟨n,h'⟩ := run_limit l _ _ _ _ hr
              refine ⟨n,?_⟩
              rw [runL_op hw hn hz,hq,hst]
              exact h'
theorem exF_skip (e : LEnv) (m : LMem) : exF C .skip e m = some (.normal,e,m) := exF_some.2 ⟨1,rfl⟩
theorem exF_exit (id : Nat) (ks : List Nat) (e : LEnv) (m : LMem) : exF C (.exit id ks) e m = some (.exit id,LEnv.keep e ks,m) := exF_some.2 ⟨1,rfl⟩
theorem exF_ret (ks : List Nat) (e : LEnv) (m : LMem) : exF C (.ret ks) e m = some (.ret,LEnv.keep e ks,m) := exF_some.2 ⟨1,rfl⟩
theorem exF_region (q : Nat) (ks : List Nat) (ops : List AOper) (e : LEnv) (m : LMem) : exF C (.region q ks ops) e m = match runL (clF C) ops e m ⟨m.length,false,[],[],1,[some m]⟩ with | some (e',m') => some (.normal,LEnv.keep e' ks,m') | none => none := by
  refine opt_ext fun r => ⟨fun h => ?_,fun h => ?_⟩
  · obtain ⟨n,hn⟩ := exF_some.1 h
    cases n with
    | zero => simp [execL] at hn
    | succ n =>
      have h' : (match runL (callL C n) ops e m ⟨m.length,false,[],[],1,[some m]⟩ with | some (e',m') => some (AExit.normal,LEnv.keep e' ks,m') | none => none) = some r := hn
      split at h'
      · rename_i hr
        rw [runL_mono (fun f a m r h => clF_some.2 ⟨n,h⟩) _ _ _ _ _ hr]
        exact h'
      · cases h'
  · split at h
    · rename_i hr
      obtain ⟨n,hn⟩ := run_limit _ _ _ _ _ hr
      refine exF_some.2 ⟨n + 1,?_⟩
      show (match runL (callL C n) ops e m ⟨m.length,false,[],[],1,[some m]⟩ with | some (e',m') => some (AExit.normal,LEnv.keep e' ks,m') | none => none) = some r
      rw [hn]; exact h
    · cases h
theorem exF_seq (a b : LCode) (e : LEnv) (m : LMem) : exF C (.seq a b) e m = match exF C a e m with | some (.normal,e',m') => exF C b e' m' | r => r := by
  refine opt_ext fun r => ⟨fun h => ?_,fun h => ?_⟩
  · obtain ⟨n,hn⟩ := exF_some.1 h
    cases n with
    | zero => simp [execL] at hn
    | succ n =>
      rw [execL] at hn
      split at hn
      · rename_i hx
        rw [exF_some.2 ⟨n,hx⟩]
        exact exF_some.2 ⟨n,hn⟩
      · rename_i hne
        rw [exF_some.2 ⟨n,hn⟩]
        split
        · rename_i hx; cases hx; exact absurd hn (hne _ _)
        · rfl
  · split at h
    · rename_i hx
      obtain ⟨n1,h1⟩ := exF_some.1 hx
      obtain ⟨n2,h2⟩ := exF_some.1 h
      refine exF_some.2 ⟨max n1 n2 + 1,?_⟩
      rw [execL,execL_mono (Nat.le_max_left n1 n2) h1]
      exact execL_mono (Nat.le_max_right n1 n2) h2
    · rename_i hne
      obtain ⟨n,hn⟩ := exF_some.1 h
      refine exF_some.2 ⟨n + 1,?_⟩
      rw [execL,hn]
      split
      · rename_i hx; cases hx; exact absurd h (hne _ _)
      · rfl
theorem exF_cond (q : Opd) (a b : LCode) (e : LEnv) (m : LMem) : exF C (.cond q a b) e m = match evL e q with | .bool true => exF C a e m | .bool false => exF C b e m | _ => none := by
  refine opt_ext fun r => ⟨fun h => ?_,fun h => ?_⟩
  · obtain ⟨n,hn⟩ := exF_some.1 h
    cases n with
    | zero => simp [execL] at hn
    | succ n =>
      rw [execL] at hn
      split at hn
      · rename_i hq; simp only [hq]; exact exF_some.2 ⟨n,hn⟩
      · rename_i hq; simp only [hq]; exact exF_some.2 ⟨n,hn⟩
      · cases hn
  · split at h
    · rename_i hq
      obtain ⟨n,hn⟩ := exF_some.1 h
      exact exF_some.2 ⟨n + 1,by rw [execL,hq]; exact hn⟩
    · rename_i hq
      obtain ⟨n,hn⟩ := exF_some.1 h
      exact exF_some.2 ⟨n + 1,by rw [execL,hq]; exact hn⟩
    · cases h
theorem exF_block (id : Nat) (b : LCode) (e : LEnv) (m : LMem) : exF C (.block id b) e m = match exF C b e m with | some (.exit id',e',m') => cond (Nat.beq id' id) (some (.normal,e',m')) (some (.exit id',e',m')) | r => r := by
  refine opt_ext fun r => ⟨fun h => ?_,fun h => ?_⟩
  · obtain ⟨n,hn⟩ := exF_some.1 h
    cases n with
    | zero => simp [execL] at hn
    | succ n =>
      rw [execL] at hn
      split at hn
      · rename_i hx
        rw [exF_some.2 ⟨n,hx⟩]
        exact hn
      · rename_i hne
        rw [exF_some.2 ⟨n,hn⟩]
        split
        · rename_i hx; cases hx; exact absurd hn (hne _ _ _)
        · rfl
  · split at h
    · rename_i hx
      obtain ⟨n1,h1⟩ := exF_some.1 hx
      exact exF_some.2 ⟨n1 + 1,by rw [execL,h1]; exact h⟩
    · rename_i hne
      obtain ⟨n,hn⟩ := exF_some.1 h
      refine exF_some.2 ⟨n + 1,?_⟩
      rw [execL,hn]
      split
      · rename_i hx; cases hx; exact absurd h (hne _ _ _)
      · rfl
theorem exF_loop (tr : Bool) (ks : List Nat) (b : LCode) (e : LEnv) (m : LMem) : exF C (.loop tr ks b) e m = match exF C b (LEnv.keep e ks) m with | some (.normal,e',m') => exF C (.loop tr ks b) (LEnv.keep e' ks) (cond tr (trim m.length (envVals (LEnv.keep e' ks)) m') m') | r => r := by
  refine opt_ext fun r => ⟨fun h => ?_,fun h => ?_⟩
  · obtain ⟨n,hn⟩ := exF_some.1 h
    cases n with
    | zero => simp [execL] at hn
    | succ n =>
      rw [execL] at hn
      split at hn
      · rename_i hx
        rw [exF_some.2 ⟨n,hx⟩]
        exact exF_some.2 ⟨n,hn⟩
      · rename_i hne
        rw [exF_some.2 ⟨n,hn⟩]
        split
        · rename_i hx; cases hx; exact absurd hn (hne _ _)
        · rfl
  · split at h
    · rename_i hx
      obtain ⟨n1,h1⟩ := exF_some.1 hx
      obtain ⟨n2,h2⟩ := exF_some.1 h
      refine exF_some.2 ⟨max n1 n2 + 1,?_⟩
      rw [execL,execL_mono (Nat.le_max_left n1 n2) h1]
      exact execL_mono (Nat.le_max_right n1 n2) h2
    · rename_i hne
      obtain ⟨n,hn⟩ := exF_some.1 h
      refine exF_some.2 ⟨n + 1,?_⟩
      rw [execL,hn]
      split
      · rename_i hx; cases hx; exact absurd h (hne _ _)
      · rfl
theorem clF_eq (f : Nat) (a : List LV) (m : LMem) : clF C f a m = match C f with | some lf => callMode (fun vs m => retL lf.results (exF C lf.body (LEnv.ofFrom 0 vs) m)) lf.mode a m | none => none := by
  refine opt_ext fun r => ⟨fun h => ?_,fun h => ?_⟩
  · obtain ⟨n,hn⟩ := clF_some.1 h
    unfold callL at hn
    split at hn
    · rename_i hq; simp only [hq]; exact callMode_mono (fun a m r h => retL_mono (fun q hq => exF_some.2 ⟨n,hq⟩) h) hn
    · cases hn
  · split at h
    · rename_i lf hlf
      obtain ⟨a',m1,v,h1,h2⟩ := callMode_once h
      obtain ⟨q,hq⟩ := retL_some h1
      obtain ⟨n,hn⟩ := exF_some.1 hq
      refine clF_some.2 ⟨n,?_⟩
      unfold callL
      simp only [hlf]
      refine h2 _ ?_
      show retL lf.results (execL C n lf.body (LEnv.ofFrom 0 a') m1) = some v
      rw [hn]; rw [hq] at h1; exact h1
    · cases h
end Go.Am
