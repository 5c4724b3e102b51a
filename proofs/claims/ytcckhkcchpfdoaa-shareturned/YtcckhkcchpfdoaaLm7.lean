/-
  THE LIST MACHINE, 7: regions.
-/
import Derived.Test.YtcckhkcchpfdoaaLm6
set_option linter.unusedVariables false
namespace Go.Am
variable [Glo]

/-- A call of the list machine is one of the abstract machine. -/
def CallOkL (cl : CallL) (cf : CallF) : Prop := ∀ (g : Nat) (args : List LV) (lm : LMem) (md : Mode) (v : LV) (lm' : LMem), cl g args lm = some (md, v, lm') → ∀ (s : Sit) (aargs : List AV), s.lm = lm → Rel2 s → LRs s args aargs →
  ∃ av am', cf g aargs s.am = some (av, am') ∧ ∃ t : Sit, t.lm = lm' ∧ t.am = am' ∧ Rel2 t ∧ Stp2 s.am.next s t ∧ LR t v av ∧ (md ≠ .W → Still s t fun _ => False)

section
variable {le : LEnv} {ae : Env}

omit [Glo] in
theorem EnvL.put {s : Sit} (h : EnvL s le ae) (d : Option Nat) {v : LV} {a : AV} (hv : LR s v a) : EnvL s (putL le d v) (putD ae d a) := by
  cases d with
  | none => exact h
  | some t =>
    intro n
    simp only [putL, putD, LEnv.at, Env.at, Tr.get_set]
    by_cases e : n = t
    · subst e; simpa using hv
    · rw [if_neg e, show Nat.beq t n = false by cases hb : Nat.beq t n; rfl; exact absurd (by simpa using hb : t = n).symm e]
      exact h n
omit [Glo] in
theorem keep_at : ∀ (ks : List Nat) (le : LEnv) (n : Nat), (le.keep ks).at n = if n ∈ ks then le.at n else .undef
  | [], le, n => by simp [LEnv.keep, LEnv.at]
  | k :: r, le, n => by
    show cond (Nat.beq k n) (le.at k) ((le.keep r).at n) = _
    rw [keep_at r]
    by_cases e : k = n
    · subst e; simp
    · rw [show Nat.beq k n = false by cases hb : Nat.beq k n; rfl; exact absurd (by simpa using hb) e]
      have : n ≠ k := fun c => e c.symm
      simp [this]
omit [Glo] in
theorem EnvL.keep {s : Sit} (h : EnvL s le ae) (ks : List Nat) : EnvL s (le.keep ks) ae := fun n => by
  rw [keep_at]
  split
  · exact h n
  · exact .undef _

/-- What holds within a region. -/
structure Inner (lo : Nat) (s0 s : Sit) (le : LEnv) (ae : Env) (h : List Mem) (k : Trk) (rest : List AOper) : Prop where
  rel : Rel2 s
  env : EnvL s le ae
  stp : Stp2 lo s0 s
  low : lo ≤ s.am.next
  pend : ∀ q ∈ slotsOf rest, s.am.look (lo + q) = none ∧ lo + q < s.am.next
  nodup : nodupB (slotsOf rest) = true
  start : k.start = s0.lm.length
  calm : ∀ i b0, s0.lm[i]? = some b0 → k.hit i = false → s.ρ i = s0.ρ i ∧ (∃ b, s.lm[i]? = some b ∧ b.cells = b0.cells) ∧ ∀ am, am = s.am ∨ am ∈ h → am.look (s0.ρ i) = s0.am.look (s0.ρ i)
  old : ∀ b, s0.A b → ∀ am, am = s.am ∨ am ∈ h → am.look b = s0.am.look b
  fresh : ∀ t, k.new.any (Nat.beq t) = false → LR s0 (le.at t) (ae.at t)
  cnt : k.cnt = h.length

theorem Inner.opd0 {lo : Nat} {s0 s : Sit} {h : List Mem} {k : Trk} {rest : List AOper} (I : Inner lo s0 s le ae h k rest) (hg : GOk s0) {x : Opd} (hx : k.fresh x = false) : OpdR s0 le ae x := by
  cases x with
  | t n => exact I.fresh n hx
  | c v => exact LR.evC hg v

omit [Glo] in
theorem any_beq_filter (l : List Nat) (t n : Nat) : (l.filter fun n => !(Nat.beq n t)).any (Nat.beq n) = (l.any (Nat.beq n) && !(Nat.beq n t)) := by
  induction l with
  | nil => rfl
  | cons a r ih =>
    rw [List.filter_cons]
    by_cases e : a = t
    · subst e
      simp only [show (Nat.beq a a) = true by simp, Bool.not_true, Bool.false_eq_true, if_false, ih, List.any_cons]
      cases h1 : Nat.beq n a <;> cases h2 : r.any (Nat.beq n) <;> rfl
    · rw [show Nat.beq a t = false by cases hb : Nat.beq a t; rfl; exact absurd (by simpa using hb) e]
      simp only [Bool.not_false, if_true, List.any_cons, ih]
      by_cases e2 : n = a
      · subst e2
        rw [show Nat.beq n t = false by cases hb : Nat.beq n t; rfl; exact absurd (by simpa using hb) e]
        simp
      · rw [show Nat.beq n a = false by cases hb : Nat.beq n a; rfl; exact absurd (by simpa using hb) e2]
        simp

/-- The next point of a region. -/
theorem Inner.next {lo : Nat} {s0 s t : Sit} {h : List Mem} {k : Trk} {o : AOper} {rest : List AOper} (I : Inner lo s0 s le ae h k (o :: rest)) {v : LV} {av : AV} {T : Nat → Prop} (hr : Rel2 t) (hs : Stp2 lo s t) (hv : LR t v av) (hst : Still s t T)
    (hp : Pend s t (o.slot.map (lo + ·))) (k1 : Trk) (hk1 : k1.start = k.start) (hk2 : k1.new = k.new) (hk3 : k1.cnt = k.cnt) (hT : ∀ i, k1.hit i = false → k.hit i = false ∧ ¬ T i) (b up : Bool) (hb : b = false → LR s0 v av) :
    Inner lo s0 t (putL le o.dst v) (putD ae o.dst av) (cond up (t.am :: h) h) ((k1.putNew o.dst b).up up) rest where
  rel := hr
  env := (I.env.mono hs.keeps).put _ hv
  stp := I.stp.trans hs
  low := Nat.le_trans I.low hs.nxt
  pend := fun q hq => by
    have hmem : q ∈ slotsOf (o :: rest) := by
      simp only [slotsOf]; split
      · exact List.mem_cons_of_mem _ hq
      · exact hq
    obtain ⟨h1, h2⟩ := I.pend q hmem
    refine ⟨hp _ h2 h1 ?_, Nat.lt_of_lt_of_le h2 hs.nxt⟩
    intro e
    have hn := I.nodup
    cases hsl : o.slot with
    | none => rw [hsl] at e; cases e
    | some q' =>
      rw [hsl] at e
      simp only [Option.map_some, Option.some.injEq] at e
      have : q' = q := by omega
      subst this
      simp only [slotsOf, hsl, nodupB, Bool.and_eq_true, Bool.not_eq_true'] at hn
      have := hn.1
      rw [List.any_eq_false] at this
      exact this q' hq (by simp)
  nodup := by
    have hn := I.nodup
    simp only [slotsOf] at hn
    split at hn
    · simp only [nodupB, Bool.and_eq_true] at hn; exact hn.2
    · exact hn
  start := by
    have := I.start
    show (k1.putNew o.dst b).start = _
    unfold Trk.putNew; split <;> exact hk1.trans this
  calm := fun i b0 hb0 hh => by
    have hh1 : k1.hit i = false := by
      unfold Trk.up Trk.putNew at hh
      split at hh <;> exact hh
    obtain ⟨hh2, hT'⟩ := hT i hh1
    obtain ⟨c1, ⟨bc, c2, c3⟩, c4⟩ := I.calm i b0 hb0 hh2
    obtain ⟨d1, d2, b', d3, d4⟩ := hst i bc c2 hT'
    refine ⟨d1.trans c1, ⟨b', d3, d4.trans c3⟩, fun am ham => ?_⟩
    have ht : t.am.look (s0.ρ i) = s0.am.look (s0.ρ i) := by rw [← c1, d2, c1]; exact c4 _ (.inl rfl)
    rcases ham with rfl | ham
    · exact ht
    · cases up
      · exact c4 _ (.inr ham)
      · rcases List.mem_cons.1 ham with rfl | ham
        · exact ht
        · exact c4 _ (.inr ham)
  old := fun x hx am ham => by
    have ht : t.am.look x = s0.am.look x := ((hs.A x (I.stp.A x hx).1).2).trans (I.old x hx _ (.inl rfl))
    rcases ham with rfl | ham
    · exact ht
    · cases up
      · exact I.old x hx _ (.inr ham)
      · rcases List.mem_cons.1 ham with rfl | ham
        · exact ht
        · exact I.old x hx _ (.inr ham)
  fresh := fun n hn => by
    have hn : (k1.putNew o.dst b).new.any (Nat.beq n) = false := hn
    cases hd : o.dst with
    | none =>
      rw [hd] at hn
      simp only [Trk.putNew, hk2] at hn
      exact I.fresh n hn
    | some d =>
      rw [hd] at hn
      simp only [Trk.putNew, hk2] at hn
      simp only [putL, putD, LEnv.at, Env.at, Tr.get_set]
      by_cases e : n = d
      · subst e
        cases b
        · simpa using hb rfl
        · simp at hn
      · rw [if_neg e, show Nat.beq d n = false by cases hb : Nat.beq d n; rfl; exact absurd (by simpa using hb : d = n).symm e]
        simp only [cond_false]
        refine I.fresh n ?_
        cases b
        · simp only [cond_false, any_beq_filter] at hn
          rw [show Nat.beq n d = false by cases hb : Nat.beq n d; rfl; exact absurd (by simpa using hb) e] at hn
          simpa using hn
        · simp only [cond_true, List.any_cons] at hn
          rw [show Nat.beq n d = false by cases hb : Nat.beq n d; rfl; exact absurd (by simpa using hb) e] at hn
          simpa using hn
  cnt := by
    have := I.cnt
    have e : (k1.putNew o.dst b).cnt = k.cnt := by unfold Trk.putNew; split <;> exact hk3
    show cond up ((k1.putNew o.dst b).cnt + 1) (k1.putNew o.dst b).cnt = _
    rw [e, this]
    cases up <;> rfl

omit [Glo] in
theorem want_ok {s : Sit} (hE : EnvL s le ae) {g : Option (Nat × Bool)} {b : Bool} (h : wantL le g = some b) : wanted ae g = b := by
  cases g with
  | none => simp only [wantL, Option.some.injEq] at h; exact h
  | some p =>
    obtain ⟨t, w⟩ := p
    simp only [wantL] at h
    split at h
    · rename_i q hq
      have := hE t
      rw [hq] at this
      simp only [Option.some.injEq] at h
      simp only [wanted, this.bool_inv]
      exact h
    · rename_i q hq
      have := hE t
      rw [hq] at this
      obtain ⟨x', e, _⟩ := this.tup_inv
      simp only [Option.some.injEq] at h
      simp only [wanted, e]
      exact h
    · cases h

omit [Glo] in
theorem loadBack_any {g : Bool} {n : Nat} {a ax : AV} : ∀ (k : Nat) (h : List Mem) (v : Option AV), (v = none ∧ 0 < k ∨ v = some ax) → k ≤ h.length → (∀ am ∈ h, loadAt am g n a = some ax) → loadBack g n a k h v = some ax
  | 0, h, v, hv, _, _ => by rcases hv with ⟨_, c⟩ | rfl; omega; rfl
  | k + 1, [], v, _, hk, _ => by simp at hk
  | k + 1, m :: h, v, hv, hk, hm => by
    rcases hv with ⟨rfl, _⟩ | rfl
    · simp only [loadBack, hm m (by simp)]
      exact loadBack_any k h _ (.inr rfl) (by simpa using hk) fun am ham => hm am (by simp [ham])
    · simp only [loadBack, hm m (by simp), AV.beq_refl, cond_true]
      exact loadBack_any k h _ (.inr rfl) (by simpa using hk) fun am ham => hm am (by simp [ham])

/-- A load of what was there before the region. -/
theorem Inner.load {lo : Nat} {s0 s : Sit} {h : List Mem} {k : Trk} {rest : List AOper} (I : Inner lo s0 s le ae h k rest) (h0 : Rel2 s0) {g : Bool} {n : Nat} {a : Opd} {x : LV} (hc : k.calm a (evL le a) = true) (hx : loadL s.lm g n (evL le a) = some x) :
    ∃ ax, (∀ am, am = s.am ∨ am ∈ h → loadAt am g n (a.ev ae) = some ax) ∧ LR s0 x ax := by
  have hE := I.env.opd I.rel.glo a
  unfold OpdR at hE
  unfold Trk.calm at hc
  split at hc
  · rename_i i o L heq
    rw [heq] at hE hx
    have hh : k.hit i = false := by simpa using hc
    have hlt : i < s0.lm.length := by
      have := I.start
      unfold Trk.hit at hh
      simp only [Bool.or_eq_false_iff] at hh
      have h2 := hh.2.1
      cases hb : Nat.ble k.start i
      · have : ¬ k.start ≤ i := fun c => by rw [show Nat.ble k.start i = true by simpa using c] at hb; cases hb
        omega
      · rw [hb] at h2; cases h2
    obtain ⟨c1, ⟨bc, c2, c3⟩, c4⟩ := I.calm i _ (List.getElem?_eq_getElem hlt) hh
    obtain ⟨b, e, hle, hk⟩ := hE.ptr_inv
    rw [e]
    have hok : okL s.lm i L := by
      simp only [loadL, c2] at hx
      cases hq : Nat.beq bc.cells.length L <;> rw [hq] at hx
      · cases hx
      · exact ⟨bc, c2, by simpa using hq⟩
    have hb : b = s0.ρ i := (hk hok).trans c1
    subst hb
    have hx0 : loadL s0.lm g n (.ptr i o L) = some x := by
      simp only [loadL, c2] at hx
      simp only [loadL, List.getElem?_eq_getElem hlt, ← c3]
      exact hx
    obtain ⟨b2, h21, h22⟩ := hok
    rw [c2] at h21
    cases h21
    have hr0 : LR s0 (.ptr i o L) (.ptr (s0.ρ i) o) := .ptr ⟨s0.lm[i], List.getElem?_eq_getElem hlt, by rw [← c3]; omega⟩ fun _ => rfl
    obtain ⟨ax, h3, h4⟩ := load_ok h0 hr0 hx0
    refine ⟨ax, fun am ham => ?_, h4⟩
    simp only [loadAt] at h3 ⊢
    rw [c4 am ham]
    exact h3
  · rename_i cs o heq
    have hf : k.fresh a = false := by simpa using hc
    have h1 := I.opd0 h0.glo hf
    unfold OpdR at h1
    rw [heq] at h1 hx
    obtain ⟨b, p, blk, e, g1, g2, g3, g4, g5⟩ := h1.elt_inv
    rw [e] at h1 ⊢
    obtain ⟨ax, h3, h4⟩ := load_ok h0 h1 (show loadL s0.lm g n (.elt cs o) = some x from hx)
    refine ⟨ax, fun am ham => ?_, h4⟩
    simp only [loadAt] at h3 ⊢
    rw [I.old b g1 am ham]
    exact h3
  · cases hc

theorem hit_touch {k : Trk} {op : AOp} {i : Nat} (h : (k.touch le op).hit i = false) : k.hit i = false ∧ ¬ touched le op i := by
  have key : ∀ j, (⟨k.start, k.all, j :: k.tch, k.new, k.cnt⟩ : Trk).hit i = false → k.hit i = false ∧ i ≠ j := by
    intro j h
    unfold Trk.hit at h ⊢
    simp only [List.any_cons, Bool.or_eq_false_iff] at h ⊢
    refine ⟨⟨h.1, h.2.1, h.2.2.2⟩, ?_⟩
    rintro rfl
    have := h.2.2.1
    simp at this
  cases op <;> simp only [Trk.touch, touched] at h ⊢ <;> first | exact ⟨h, fun c => c⟩ | skip
  case store n a x =>
    split at h
    · rename_i j o L he
      obtain ⟨h1, h2⟩ := key _ h
      refine ⟨h1, ?_⟩
      rintro ⟨o', L', e⟩
      rw [he] at e; cases e; exact h2 rfl
    · rename_i hn
      exact ⟨h, fun ⟨o', L', e⟩ => hn _ _ _ e⟩
  case append n b a x =>
    split at h
    · rename_i j o n' cap g sz L he
      obtain ⟨h1, h2⟩ := key _ h
      refine ⟨h1, ?_⟩
      rintro ⟨_, _, _, _, _, _, e⟩
      rw [he] at e; cases e; exact h2 rfl
    · rename_i hn
      exact ⟨h, fun ⟨_, _, _, _, _, _, e⟩ => hn _ _ _ _ _ _ _ e⟩
  case copy n a x =>
    split at h
    · rename_i j o n' cap g sz L he
      obtain ⟨h1, h2⟩ := key _ h
      refine ⟨h1, ?_⟩
      rintro ⟨_, _, _, _, _, _, e⟩
      rw [he] at e; cases e; exact h2 rfl
    · rename_i hn
      exact ⟨h, fun ⟨_, _, _, _, _, _, e⟩ => hn _ _ _ _ _ _ _ e⟩
  case clr n a =>
    split at h
    · rename_i j o n' cap g sz L he
      obtain ⟨h1, h2⟩ := key _ h
      refine ⟨h1, ?_⟩
      rintro ⟨_, _, _, _, _, _, e⟩
      rw [he] at e; cases e; exact h2 rfl
    · rename_i hn
      exact ⟨h, fun ⟨_, _, _, _, _, _, e⟩ => hn _ _ _ _ _ _ _ e⟩
theorem touch_same (k : Trk) (op : AOp) : (k.touch le op).start = k.start ∧ (k.touch le op).new = k.new ∧ (k.touch le op).cnt = k.cnt := by
  cases op <;> simp only [Trk.touch, and_self] <;> split <;> simp

theorem run_ok {cl : CallL} {cf : CallF} (hcall : CallOkL cl cf) {lo : Nat} {s0 : Sit} (h0 : Rel2 s0) : ∀ (ops : List AOper) {s : Sit} {le le' : LEnv} {ae : Env} {h : List Mem} {k : Trk} {lm' : LMem}, Inner lo s0 s le ae h k ops → runL cl ops le s.lm k = some (le', lm') →
    ∃ ae' am', runOps cf lo ops ae s.am h = some (ae', am') ∧ ∃ t : Sit, t.lm = lm' ∧ t.am = am' ∧ Rel2 t ∧ Stp2 lo s0 t ∧ EnvL t le' ae'
  | [], s, le, le', ae, h, k, lm', I, hr => by
    simp only [runL, Option.some.injEq, Prod.mk.injEq] at hr
    obtain ⟨rfl, rfl⟩ := hr
    exact ⟨ae, s.am, rfl, s, rfl, rfl, I.rel, I.stp, I.env⟩
  | o :: rest, s, le, le', ae, h, k, lm', I, hr => by
    simp only [runL] at hr
    split at hr
    · cases hr
    · rename_i hw
      rw [runOps_not (want_ok I.env hw)]
      have I' := I.next (t := s) (v := .tup []) (av := .undef) (T := fun _ => False) I.rel (Stp2.refl _ _) (.tup .nil) (Still.refl _ _) (fun r _ h _ => h) k rfl rfl rfl (fun i h => ⟨h, fun c => c⟩) true o.eff (fun h => by cases h)
      exact run_ok hcall h0 rest I' hr
    · rename_i hw
      have hw := want_ok I.env hw
      split at hr
      · rename_i f args hop
        rw [runOps_call hw hop]
        split at hr
        · rename_i g first cap hf
          have hfe := I.env.opd I.rel.glo f
          unfold OpdR at hfe
          rw [hf] at hfe
          obtain ⟨x', y', e, hx, hy⟩ := hfe.func_inv
          simp only [e]
          split at hr
          · rename_i md v lm2 hcl
            have hargs : LRs s (first ++ (args.map (evL le) ++ cap)) (x' ++ (args.map (Opd.ev ae) ++ y')) := hx.append ((LRs.map args fun x _ => I.env.opd I.rel.glo x).append hy)
            obtain ⟨av, am', h1, t, h2, h3, h4, h5, h6, h7⟩ := hcall g _ _ md v lm2 hcl s _ rfl I.rel hargs
            simp only [h1]
            subst h2 h3
            have hpend : Pend s t (o.slot.map (lo + ·)) := fun r hr hn _ => by
              rw [h5.frame r hr]
              · exact hn
              · rintro ⟨i, blk, hi, _, rfl⟩
                obtain ⟨ab, hab, _⟩ := I.rel.blk i blk hi
                rw [hn] at hab; cases hab
            by_cases hmd : md = .W
            · subst hmd
              have I' := I.next (t := t) (v := v) (av := av) (T := fun _ => True) h4 (h5.weak I.low) h6 (fun i b _ hn => absurd trivial hn) hpend ⟨k.start, true, k.tch, k.new, k.cnt⟩ rfl rfl rfl (fun i hh => by unfold Trk.hit at hh; simp at hh) true true (fun h => by cases h)
              exact run_ok hcall h0 rest I' hr
            · have I' := I.next (t := t) (v := v) (av := av) (T := fun _ => False) h4 (h5.weak I.low) h6 (h7 hmd) hpend k rfl rfl rfl (fun i h => ⟨h, fun c => c⟩) true true (fun h => by cases h)
              refine run_ok hcall h0 rest I' ?_
              cases md <;> first | exact hr | exact absurd rfl hmd
          · cases hr
        · cases hr
      · rename_i hn
        rw [runOps_op hw fun f args e => hn f args e]
        cases hc : loadFine k le o.back o.op with
        | false => rw [hc] at hr; cases hr
        | true =>
        rw [hc] at hr
        simp only [cond_true] at hr
        split at hr
        · rename_i v lm2 hst
          have hslot : SlotOk lo s (o.slot.map (lo + ·)) := by
            refine ⟨I.low, fun r hr => ?_⟩
            obtain ⟨q, hq, rfl⟩ := Option.map_eq_some_iff.1 hr
            obtain ⟨p1, p2⟩ := I.pend q (by simp [slotsOf, hq])
            exact ⟨p1, Nat.le_add_right _ _, p2⟩
          have hts := touch_same (le := le) k o.op
          -- a load that was turned round
          by_cases hld : ∃ g n a, o.op = .load g n a ∧ k.calm a (evL le a) = true
          · obtain ⟨g, n, a, hop, hcalm⟩ := hld
            rw [hop] at hst hc
            simp only [loadFine] at hc
            simp only [stepL] at hst
            split at hst
            · rename_i w hw'
              simp only [Option.some.injEq, Prod.mk.injEq] at hst
              obtain ⟨rfl, rfl⟩ := hst
              obtain ⟨ax, hall, hax⟩ := I.load h0 hcalm hw'
              have hstep : stepOp ae s.am h o.back (o.slot.map (lo + ·)) o.op = some (ax, s.am) := by
                rw [hop]
                simp only [stepOp]
                cases hb : o.back with
                | zero => simp only [hall _ (.inl rfl)]
                | succ b =>
                  have hcnt : o.back ≤ h.length := by
                    rw [← I.cnt]
                    simp only [Bool.or_eq_true, Bool.and_eq_true] at hc
                    rcases hc with c | c
                    · rw [hb] at c; simp at c
                    · simpa using c.2
                  rw [hb] at hcnt
                  simp only [loadBack_any (b + 1) h none (.inl ⟨rfl, Nat.succ_pos _⟩) hcnt fun am ham => hall am (.inr ham)]
              simp only [hstep]
              have hg : k.gives le o.op = false := by rw [hop]; simp [Trk.gives, hcalm]
              have ht0 : k.touch le o.op = k := by rw [hop]; rfl
              have I' := I.next (t := s) (v := w) (av := ax) (T := fun _ => False) I.rel (Stp2.refl _ _) (hax.mono I.stp.keeps) (Still.refl _ _) (fun r _ h _ => h) k rfl rfl rfl (fun i h => ⟨h, fun c => c⟩) false o.eff (fun _ => hax)
              refine run_ok hcall h0 rest I' ?_
              rw [ht0, hg] at hr
              exact hr
            · cases hst
          · obtain ⟨av, am', h1, t, h2, h3, h4, h5, h6, h7, h8⟩ := step_ok I.rel I.env hslot hst h o.back (fun g n a hop => by
              rw [hop] at hc
              simp only [loadFine, Bool.or_eq_true, Bool.and_eq_true] at hc
              rcases hc with c | c
              · simpa using c
              · exact absurd ⟨g, n, a, hop, c.1⟩ hld)
            subst h2 h3
            simp only [h1]
            have I' := I.next (t := t) (v := v) (av := av) (T := touched le o.op) h4 h5 h6 h7 h8 (k.touch le o.op) hts.1 hts.2.1 hts.2.2 (fun i hh => hit_touch hh) (k.gives le o.op) o.eff (fun hg => by
              have hnl : ∀ g n a, o.op ≠ .load g n a := fun g n a hop => by
                rw [hop] at hg
                simp only [Trk.gives, Bool.not_eq_false'] at hg
                exact hld ⟨g, n, a, hop, hg⟩
              have : ∃ l, opdsOf o.op = some l ∧ l.any k.fresh = false := by
                generalize o.op = op at hg hnl
                cases op <;> first | exact absurd rfl (hnl _ _ _) | (simp only [Trk.gives, opdsOf, reduceCtorEq] at hg; done) | exact ⟨_, rfl, hg⟩
              obtain ⟨l, hl, hf⟩ := this
              obtain ⟨e, av', g1, g2⟩ := pure_ok (s := s0) hl hnl (fun x hx => I.opd0 h0.glo (by rw [List.any_eq_false] at hf; simpa using hf x hx)) hst s.am h o.back (o.slot.map (lo + ·))
              rw [h1] at g1
              simp only [Option.some.injEq, Prod.mk.injEq] at g1
              rw [g1.1]
              exact g2)
            exact run_ok hcall h0 rest I' hr
        · cases hr
end
end Go.Am

