/-
  THE ABSTRACT MACHINE, 25: a round of the abstract machine is a round of the model.
-/
import Derived.Test.YtoppeojgadbjeaaAm24
import Derived.Test.YtoppeojgadbjeaaAm21
set_option linter.unusedVariables false
set_option linter.unusedSimpArgs false
namespace Go.Am
variable [Glo]
variable {P : Program}
omit [Glo] in
theorem mem_dedup : ∀ (l seen : List Nat) (t : Nat),t ∈ l → t ∈ seen ∨ t ∈ dedup l seen
  | [],_,_,h => by simp at h
  | a :: r,seen,t,h => by
    simp only [dedup,Bool.cond_eq_ite]
    split
    · rename_i hs
      rcases List.mem_cons.1 h with rfl | h
      · simp only [List.any_eq_true,Nat.beq_eq] at hs
        obtain ⟨x,hx,rfl⟩ := hs
        exact .inl hx
      · exact mem_dedup r seen t h
    · rcases List.mem_cons.1 h with rfl | h
      · exact .inr (by simp)
      · rcases mem_dedup r (a :: seen) t h with h | h
        · rcases List.mem_cons.1 h with rfl | h
          · exact .inr (by simp)
          · exact .inl h
        · exact .inr (by simp [h])
omit [Glo] in
theorem rndOf_us {j : Nat} {R : Rnd} (h : rndOf P j = some R) {ca cb : ACode} (ha : cCode P false 0 R.k R.assign = some ca) (hb : cCode P false 0 R.k R.body = some cb) : R.us = usOf R.ps ca cb := by
  unfold rndOf at h
  simp only [Bool.cond_eq_ite] at h
  split at h
  case isFalse => cases h
  split at h
  · split at h
    · split at h
      · split at h
        · rename_i ca' cb' h1 h2
          simp only [Option.some.injEq] at h
          subst h
          simp only at ha hb
          rw [h1] at ha; rw [h2] at hb
          cases ha; cases hb
          rfl
        · cases h
      · cases h
    · cases h
  · cases h
theorem VRs.set {ρ : PM} : ∀ {l : List AV} {v : List Value} (n : Nat) {x : AV} {u : Value},VRs ρ l v → VR ρ x u → VRs ρ (l.set n x) (v.set n u)
  | _,_,n,_,_,.nil,_ => .nil
  | _,_,0,_,_,.cons h r,k => .cons k r
  | _,_,n + 1,_,_,.cons h r,k => .cons h (r.set n k)
theorem noPtr {ρ : PM} {i o : Nat} {p : Place} {u : Value} (hat : ρ i = some p) (hm : p.map = true) : ¬ VR ρ (.ptr i o) u := by
  intro h
  cases h
  rename_i p' hk hp
  rw [hat] at hp; cases hp
  rw [hm] at hk; cases hk
theorem VRs.all {ρ : PM} : ∀ {l : List AV} {v : List Value},VRs ρ l v → ∀ z ∈ l,∃ u,VR ρ z u
  | _,_,.nil,z,h => by simp at h
  | _,_,.cons h r,z,hz => by
    rcases List.mem_cons.1 hz with rfl | hz
    · exact ⟨_,h⟩
    · exact r.all z hz
theorem env_start {ρ : PM} {args : List AV} {cargs : Array Value} (h : VRs ρ args cargs.toList) (hg : Glob P ρ) (n : Nat) : EnvR P ρ (Env.of args) { tmps := cargs ++ Array.replicate (n - cargs.size) undef,defers := [] } := by
  refine ⟨fun t => ?_,hg⟩
  rw [at_of']
  have hl := h.length
  by_cases ht : t < args.length
  · obtain ⟨u,hu,hr⟩ := h.get (j := t) (x := args[t]) (List.getElem?_eq_getElem ht)
    have e1 : args.getD t .undef = args[t] := by simp [List.getD,ht]
    have e2 : (cargs ++ Array.replicate (n - cargs.size) undef).getD t undef = u := by
      rw [Array.getD_eq_getD_getElem?,Array.getElem?_append,if_pos (by simp at hl; omega)]
      rw [show cargs[t]? = some u by simpa using hu]; rfl
    rw [e1,e2]; exact hr
  · have e1 : args.getD t .undef = .undef := by simp [List.getD,List.getElem?_eq_none (Nat.le_of_not_lt ht)]
    have e2 : (cargs ++ Array.replicate (n - cargs.size) undef).getD t undef = undef := by
      rw [Array.getD_eq_getD_getElem?,Array.getElem?_append,if_neg (by simp at hl; omega),Array.getElem?_replicate]
      split <;> rfl
    rw [e1,e2]; exact VR.undef ρ
theorem rnd_of_exec {C : Prog} {n : Nat} (hC : ProgOk C P) (hreg : ∀ j,j < n → RegOk P C j ∧ CallOk C P j) : RndOk C P n := by
  intro j i R p r full args m v m' ρ w cargs h0 hj hat hmap hloop hps has hbd hk hfull hcall hargs hR hG
  have haf : ∃ af,C j = some af := by
    unfold callA at hcall
    split at hcall
    · rename_i af haf; exact ⟨af,haf⟩
    · cases hcall
  obtain ⟨af,haf⟩ := haf
  obtain ⟨a1,b1,d1,hcr,rfl,hC1⟩ := (hC.rounds j R hj).1 af haf
  have hj2 := hj
  replace hj2 := (hC.rnd _ _).1 hj2
  obtain ⟨ca,cb,hca,hcb,hsa,hsb,hps1,husk,hpsk,hw1,hw2,_⟩ := cRound_some hj2 hcr
  have hus := rndOf_us hj2 hca hcb
  obtain ⟨pp,hpp⟩ : ∃ pp,R.ps = [pp] := by
    cases hq : R.ps with
    | nil => rw [hq] at hps1; cases hps1
    | cons x r =>
      rw [hq] at hps1
      simp only [List.length_cons] at hps1
      exact ⟨x,by rw [List.length_eq_zero_iff.1 (show r.length = 0 by omega)]⟩
  rw [hw1,hpp] at haf
  rw [hw2] at hC1
  have hppk : pp < R.k := hpsk pp (by rw [hpp]; simp)
  have hnames : ∀ t,t ∈ ca.names ∨ t ∈ cb.names → t ∈ R.us ++ [pp] := fun t ht => by
    rcases mem_dedup (ca.names ++ cb.names) R.ps t (List.mem_append.2 ht) with h | h
    · rw [hpp] at h; exact List.mem_append.2 (.inr h)
    · rw [hus]; exact List.mem_append.2 (.inl h)
  have hlk : ∀ t ∈ R.us ++ [pp],t < R.k := fun t ht => by
    rcases List.mem_append.1 ht with h | h
    · exact husk t h
    · rw [List.mem_singleton.1 h]; exact hppk
  have hfl : full.length = r.tmps.size := by rw [hfull.length]; simp
  have hno : ∀ z ∈ args ++ (R.us.map fun t => full.getD t .undef),∀ o,z ≠ .ptr i o := fun z hz o he => by
    subst he
    rcases List.mem_append.1 hz with h | h
    · obtain ⟨u,hu⟩ := hargs.all _ h
      exact noPtr hat hmap hu
    · obtain ⟨t,ht,hte⟩ := List.mem_map.1 h
      have htl : t < full.length := by rw [hfl]; exact Nat.lt_of_lt_of_le (husk t ht) hk
      rw [List.getD_eq_getElem?_getD,List.getElem?_eq_getElem htl] at hte
      simp only [Option.getD_some] at hte
      obtain ⟨u,hu⟩ := hfull.all _ (List.getElem_mem htl)
      rw [hte] at hu
      exact noPtr hat hmap hu
  obtain ⟨rfl,x,E,rfl,hEat,n1,n2,e1,m1,bb1,ee,e2,m2,bb2,hn1,hn2,hx1,hl1,ho1,hc1,hee,hx2,hl2,ho2,rfl,bb0,hl0,hne0⟩ := round_run haf hC1 (by simp) hsa hsb (fun t ht => hlk t (hnames t (.inl ht))) (fun t ht => hlk t (hnames t (.inr ht))) hno hcall
  -- what was given
  cases hca' : cargs.toList with
  | nil => rw [hca'] at hargs; cases hargs
  | cons u us' =>
  rw [hca'] at hargs
  cases hargs with
  | cons hxu hnil =>
  cases hnil
  have hcargs : cargs = #[u] := by rw [← Array.toList_inj]; simpa using hca'
  subst hcargs
  have hparams : r.params = #[pp] := by rw [← Array.toList_inj]; rw [hps,hpp]
  -- the slots
  obtain ⟨E0,hE0⟩ : ∃ E0,E0 = Env.of (full.set pp x) := ⟨_,rfl⟩
  have hagree : Agree (R.us ++ [pp]) E E0 := fun t ht => by
    have htk := hlk t ht
    rw [hEat t htk,hE0,at_of']
    by_cases hp : t = pp
    · subst hp
      rw [if_pos rfl,List.getD_eq_getElem?_getD,List.getElem?_set_self (by rw [hfl]; omega)]
      rfl
    · have hu : t ∈ R.us := (List.mem_append.1 ht).resolve_right (by simpa using hp)
      rw [if_neg hp,if_pos hu,List.getD_eq_getElem?_getD,List.getElem?_map,List.getElem?_eq_getElem (List.idxOf_lt_length_iff.2 hu),List.getElem_idxOf]
      simp only [Option.map_some,Option.getD_some]
      rw [List.getD_eq_getElem?_getD,List.getD_eq_getElem?_getD,List.getElem?_set_ne (Ne.symm hp)]
  obtain ⟨e1',hx1',hag1⟩ := exec_agree n1 ca E E0 m (fun t ht => hnames t (.inl ht)) hagree _ _ _ hx1
  have hag2 : Agree (R.us ++ [pp]) ee e1' := fun t ht => (hee t (hlk t ht)).trans (hag1 t ht)
  obtain ⟨e2',hx2',_⟩ := exec_agree n2 cb ee e1' _ (fun t ht => hnames t (.inr ht)) hag2 _ _ _ hx2
  -- the record
  obtain ⟨p',hp',hbr⟩ := hR.blk i bb0 hl0
  rw [hat] at hp'; cases hp'
  obtain ⟨q0,st0,pd0,hcells0,_,hheap0,_⟩ := hbr.loop j r hmap hloop (.inr hne0)
  have hy := run_yield (P := P) (args := #[u]) hheap0 (by simp [hparams])
  refine ⟨_,hy,?_⟩
  have htm : ((({ r with state := st0,pending := pd0 } : Loop).params.zip #[u]).foldl (fun tmps (x : Nat × Value) => tmps.setIfInBounds x.1 x.2) ({ r with state := st0,pending := pd0 } : Loop).tmps) = r.tmps.setIfInBounds pp u := by
    simp [hparams]
  have hE : EnvR P ρ E0 { tmps := r.tmps.setIfInBounds pp u,defers := [] } := by
    have := env_start (P := P) (args := full.set pp x) (cargs := r.tmps.setIfInBounds pp u) (by simpa using hfull.set pp hxu) hG 0
    rw [hE0]
    simpa using this
  refine roundIn_of_wpIn trivial ?_
  rw [htm,has,hbd]
  have hsz : R.k ≤ (r.tmps.setIfInBounds pp u).size := by simpa using hk
  have hF : Fence.inRound Fence.wide p.blk = FW (some p.blk) := rfl
  rw [hF]
  have w1 := exec_sound hC n1 (fun j hj => hreg j (by omega)) R.assign false 0 R.k ca E0 m .normal e1' m1 hca hx1' (some p.blk) (.inl rfl) (fun h => absurd rfl h) 0 ρ w _ (Nat.zero_le _) hR hE hsz (Mk.nil _ _ _ _)
  refine wpIn_mono w1 ?_
  rintro X a1 w1 ⟨hX,ρ1,hE1,hS1,hs1,hM1⟩
  cases hX
  -- the round begins
  have hat1 : ρ1 i = some p := hS1.le hR i p hat
  obtain ⟨p',hp',hbr1⟩ := hS1.rel.blk i bb1 hl1
  rw [hat1] at hp'; cases hp'
  obtain ⟨q1,st1,pd1,hcells1,_,hheap1,hready1⟩ := hbr1.loop j r hmap hloop (.inl ho1)
  rw [hcells1] at hc1
  simp only [List.getElem?_cons_zero,Option.some.injEq,AV.bool.injEq] at hc1
  obtain ⟨rfl,rfl⟩ := hready1 hc1
  have hlt1 : p.blk < w1.heap.size := (Array.getElem?_eq_some_iff.1 hheap1).1
  refine ⟨_,run_beginRound hheap1 rfl,?_⟩
  have hS2 : Stp ρ1 m1 w1 ρ1 (m1.put i ⟨splice bb1.cells 0 [.bool false],true⟩) (w1.putObj p.blk (.loop { r with state := .busy,pending := none })) := by
    refine Stp.writeB (w' := w1.putObj p.blk (.loop { r with state := .busy,pending := none })) hS1.rel hl1 ho1 hat1 (by simp [World.putObj]) (fun B' hB' => ?_) rfl rfl rfl ⟨fun c => ?_,fun c => ?_,fun j' r' _ hl' _ => ⟨false,.busy,none,?_,rfl,?_,fun c => by cases c⟩,fun _ c => ?_⟩
    · simp only [World.putObj]
      rw [Array.getElem?_setIfInBounds,if_neg (Ne.symm hB')]
    · rw [hmap] at c; cases c
    · rw [hmap] at c; cases c
    · rw [hcells1]; rfl
    · rw [hloop] at hl'
      simp only [Option.some.injEq,Prod.mk.injEq] at hl'
      obtain ⟨_,rfl⟩ := hl'
      exact World.putObj_heap_same hlt1
    · rw [hloop] at c; cases c
  have w2 := exec_sound hC n2 (fun j hj => hreg j (by omega)) R.body false 0 R.k cb e1' _ .normal e2' m2 hcb hx2' (some p.blk) (.inl rfl) (fun h => absurd rfl h) 0 ρ1 _ a1 (Nat.zero_le _) hS2.rel hE1 (by rw [hs1]; exact hsz) (hM1.stp hS2)
  refine wpIn_mono w2 ?_
  rintro X a2 w3 ⟨hX,ρ2,hE2,hS3,hs2,hM2⟩
  cases hX
  -- the round ends
  have hat2 : ρ2 i = some p := hS3.le hS2.rel i p hat1
  obtain ⟨p',hp',hbr2⟩ := hS3.rel.blk i bb2 hl2
  rw [hat2] at hp'; cases hp'
  obtain ⟨q2,st2,pd2,hcells2,_,hheap2,_⟩ := hbr2.loop j r hmap hloop (.inl ho2)
  have hlt2 : p.blk < w3.heap.size := (Array.getElem?_eq_some_iff.1 hheap2).1
  refine ⟨_,_,run_endRound none hheap2,?_⟩
  have hS4 : Stp ρ2 m2 w3 ρ2 (m2.put i ⟨splice bb2.cells 0 [.bool true],true⟩) (w3.putObj p.blk (.loop { r with state := .ready,pending := none })) := by
    refine Stp.writeB (w' := w3.putObj p.blk (.loop { r with state := .ready,pending := none })) hS3.rel hl2 ho2 hat2 (by simp [World.putObj]) (fun B' hB' => ?_) rfl rfl rfl ⟨fun c => ?_,fun c => ?_,fun j' r' _ hl' _ => ⟨true,.ready,none,?_,rfl,?_,fun _ => ⟨rfl,rfl⟩⟩,fun _ c => ?_⟩
    · simp only [World.putObj]
      rw [Array.getElem?_setIfInBounds,if_neg (Ne.symm hB')]
    · rw [hmap] at c; cases c
    · rw [hmap] at c; cases c
    · rw [hcells2]; rfl
    · rw [hloop] at hl'
      simp only [Option.some.injEq,Prod.mk.injEq] at hl'
      obtain ⟨_,rfl⟩ := hl'
      exact World.putObj_heap_same hlt2
    · rw [hloop] at c; cases c
  exact ⟨.bool true,ρ2,rfl,.bool true,((hS1.trans hS2).trans hS3).trans hS4⟩
end Go.Am
