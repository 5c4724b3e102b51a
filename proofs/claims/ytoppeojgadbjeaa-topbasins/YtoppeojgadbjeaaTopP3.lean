import Derived.Test.YtoppeojgadbjeaaTopP1
import Derived.Test.YtoppeojgadbjeaaTopB
set_option linter.unusedVariables false
set_option linter.unusedSimpArgs false
namespace Go.Am.Top
def nbs (p c N : Nat) : List Nat :=
  (if c ≤ p then [p - c] else []) ++ ((if 1 ≤ p ∧ p % c ≠ 0 then [p - 1] else []) ++ ((if p + 1 < N ∧ (p + 1) % c ≠ 0 then [p + 1] else []) ++ ((if p + c < N then [p + c] else []) ++ (if N ≤ p + c then [N] else []))))
theorem nbs_mem {p c N x : Nat} (hx : x < N) : x ∈ nbs p c N ↔ (c ≤ p ∧ x = p - c) ∨ (1 ≤ p ∧ p % c ≠ 0 ∧ x = p - 1) ∨ ((p + 1) % c ≠ 0 ∧ x = p + 1) ∨ x = p + c := by
  unfold nbs
  simp only [List.mem_append]
  constructor
  · rintro (h | h | h | h | h) <;> split at h <;> simp at h
    · exact .inl ⟨by assumption,h⟩
    · rename_i q; exact .inr (.inl ⟨q.1,q.2,h⟩)
    · rename_i q; exact .inr (.inr (.inl ⟨q.2,h⟩))
    · exact .inr (.inr (.inr h))
    · omega
  · rintro (⟨h,rfl⟩ | ⟨h1,h2,rfl⟩ | ⟨h,rfl⟩ | rfl)
    · exact .inl (by rw [if_pos h]; simp)
    · exact .inr (.inl (by rw [if_pos ⟨h1,h2⟩]; simp))
    · exact .inr (.inr (.inl (by rw [if_pos ⟨hx,h⟩]; simp)))
    · exact .inr (.inr (.inr (.inl (by rw [if_pos hx]; simp))))
theorem nbs_symm {p c N x : Nat} (hx : x < N) (hp : p < N) (h : x ∈ nbs p c N) : p ∈ nbs x c N := by
  rw [nbs_mem hp]
  rcases (nbs_mem hx).1 h with ⟨g,rfl⟩ | ⟨h1,h2,rfl⟩ | ⟨g,rfl⟩ | rfl
  · exact .inr (.inr (.inr (by omega)))
  · exact .inr (.inr (.inl ⟨by rw [show p - 1 + 1 = p by omega]; exact h2,by omega⟩))
  · exact .inr (.inl ⟨by omega,g,by omega⟩)
  · exact .inl ⟨by omega,by omega⟩
inductive Rch (c N : Nat) (may : Nat → Bool) (p : Nat) : Nat → Prop
  | here : Rch c N may p p
  | step {x y : Nat} (h : Rch c N may p x) (hy : y ∈ nbs x c N) (hN : y < N) (hm : may y = true) : Rch c N may p y
theorem Rch.may {c N : Nat} {may : Nat → Bool} {p x : Nat} (h : Rch c N may p x) (hp : may p = true) : may x = true := by
  cases h with
  | here => exact hp
  | step _ _ _ hm => exact hm
theorem Rch.lt {c N : Nat} {may : Nat → Bool} {p x : Nat} (h : Rch c N may p x) (hp : p < N) : x < N := by
  cases h with
  | here => exact hp
  | step _ _ hN _ => exact hN
theorem Rch.trans {c N : Nat} {may : Nat → Bool} {p x y : Nat} (h : Rch c N may p x) (k : Rch c N may x y) : Rch c N may p y := by
  induction k with
  | here => exact h
  | step _ hy hN hm ih => exact .step ih hy hN hm
theorem Rch.symm {c N : Nat} {may : Nat → Bool} {p x : Nat} (h : Rch c N may p x) (hp : p < N) (hm : may p = true) : Rch c N may x p := by
  induction h with
  | here => exact .here
  | step h hy hN hmy ih => exact Rch.trans (.step .here (nbs_symm hN (h.lt hp) hy) (h.lt hp) (h.may hm)) ih
theorem Rch.mono {c N : Nat} {a b : Nat → Bool} (hab : ∀ x,a x = true → b x = true) {p x : Nat} (h : Rch c N a p x) : Rch c N b p x := by
  induction h with
  | here => exact .here
  | step _ hy hN hm ih => exact .step ih hy hN (hab _ hm)
theorem rch_na {c N : Nat} {a b : Nat → Bool} (hab : ∀ x,a x = true → b x = true) {p q : Nat} (hp : p < N) (hpa : a p = true) {z : Nat} (h1 : Rch c N a p z) (h2 : Rch c N b q z) {x : Nat} (hx : Rch c N a p x) : Rch c N b q x :=
  h2.trans ((h1.symm hp hpa).trans hx |>.mono hab)
structure FS where
  T : List Nat
  O : List Nat
def fstep (may : Nat → Bool) (N : Nat) (s : FS) (x : Nat) : FS := if x < N ∧ x ∉ s.O ∧ may x = true then ⟨s.T ++ [x],s.O ++ [x]⟩ else s
structure FI (may : Nat → Bool) (c N p : Nat) (s : FS) : Prop where
  sub : ∀ x ∈ s.T,x ∈ s.O
  nd : s.O.Nodup
  rch : ∀ x ∈ s.O,Rch c N may p x
  has : p ∈ s.O
  cl : ∀ x ∈ s.O,x ∉ s.T → ∀ y ∈ nbs x c N,y < N → may y = true → y ∈ s.O
theorem fold_mono (may : Nat → Bool) (N : Nat) : ∀ (l : List Nat) (s : FS) (x : Nat),(x ∈ s.O → x ∈ (l.foldl (fstep may N) s).O) ∧ (x ∈ s.T → x ∈ (l.foldl (fstep may N) s).T)
  | [],s,x => ⟨id,id⟩
  | y :: l,s,x => by
    have h := fold_mono may N l (fstep may N s y) x
    rw [List.foldl_cons]
    refine ⟨fun hx => h.1 ?_,fun hx => h.2 ?_⟩
    · unfold fstep; split
      · exact List.mem_append_left _ hx
      · exact hx
    · unfold fstep; split
      · exact List.mem_append_left _ hx
      · exact hx
theorem fold_new (may : Nat → Bool) (N : Nat) : ∀ (l : List Nat) (s : FS) (x : Nat),x ∈ (l.foldl (fstep may N) s).O → x ∈ s.O ∨ (x ∈ (l.foldl (fstep may N) s).T ∧ x ∈ l ∧ x < N ∧ may x = true)
  | [],s,x,h => .inl h
  | y :: l,s,x,h => by
    rw [List.foldl_cons] at h ⊢
    rcases fold_new may N l _ x h with h2 | ⟨h1,h2,h3⟩
    · by_cases q : y < N ∧ y ∉ s.O ∧ may y = true
      · have e : fstep may N s y = ⟨s.T ++ [y],s.O ++ [y]⟩ := by unfold fstep; rw [if_pos q]
        rw [e] at h2
        rcases List.mem_append.1 h2 with h2 | h2
        · exact .inl h2
        · obtain rfl := List.mem_singleton.1 h2
          refine .inr ⟨(fold_mono may N l _ _).2 ?_,by simp,q.1,q.2.2⟩
          rw [e]; simp
      · have e : fstep may N s y = s := by unfold fstep; rw [if_neg q]
        rw [e] at h2; exact .inl h2
    · exact .inr ⟨h1,List.mem_cons_of_mem _ h2,h3⟩
theorem fold_sub (may : Nat → Bool) (N : Nat) : ∀ (l : List Nat) (s : FS),(∀ x ∈ s.T,x ∈ s.O) → s.O.Nodup → (∀ x ∈ (l.foldl (fstep may N) s).T,x ∈ (l.foldl (fstep may N) s).O) ∧ (l.foldl (fstep may N) s).O.Nodup ∧ (l.foldl (fstep may N) s).T.length + s.O.length = s.T.length + (l.foldl (fstep may N) s).O.length
  | [],s,h,hn => ⟨h,hn,rfl⟩
  | y :: l,s,h,hn => by
    rw [List.foldl_cons]
    by_cases q : y < N ∧ y ∉ s.O ∧ may y = true
    · have e : fstep may N s y = ⟨s.T ++ [y],s.O ++ [y]⟩ := by unfold fstep; rw [if_pos q]
      rw [e]
      obtain ⟨h1,h2,h3⟩ := fold_sub may N l ⟨s.T ++ [y],s.O ++ [y]⟩ (fun x hx => by
        rcases List.mem_append.1 hx with hx | hx
        · exact List.mem_append_left _ (h x hx)
        · exact List.mem_append_right _ hx) (by
        refine List.nodup_append.2 ⟨hn,by simp,fun a ha b hb e2 => ?_⟩
        rw [List.mem_singleton.1 hb] at e2
        rw [e2] at ha
        exact q.2.1 ha)
      refine ⟨h1,h2,?_⟩
      simp only [List.length_append,List.length_singleton] at h3
      omega
    · have e : fstep may N s y = s := by unfold fstep; rw [if_neg q]
      rw [e]; exact fold_sub may N l s h hn
theorem fold_all (may : Nat → Bool) (N : Nat) : ∀ (l : List Nat) (s : FS) (x : Nat),x ∈ l → x < N → may x = true → x ∈ (l.foldl (fstep may N) s).O
  | [],s,x,h,_,_ => by simp at h
  | y :: l,s,x,h,hN,hm => by
    rw [List.foldl_cons]
    rcases List.mem_cons.1 h with rfl | h
    · refine (fold_mono may N l _ _).1 ?_
      unfold fstep
      by_cases q : x ∈ s.O
      · rw [if_neg (fun c => c.2.1 q)]; exact q
      · rw [if_pos ⟨hN,q,hm⟩]; simp
    · exact fold_all may N l _ x h hN hm
theorem FI.next {may : Nat → Bool} {c N p x : Nat} {T O : List Nat} (h : FI may c N p ⟨x :: T,O⟩) : FI may c N p ((nbs x c N).foldl (fstep may N) ⟨T,O⟩) := by
  have hs := fold_sub may N (nbs x c N) ⟨T,O⟩ (fun y hy => h.sub y (List.mem_cons_of_mem _ hy)) h.nd
  refine ⟨hs.1,hs.2.1,fun y hy => ?_,(fold_mono may N _ _ _).1 h.has,fun y hy hyT z hz hzN hzm => ?_⟩
  · rcases fold_new may N _ _ _ hy with h1 | ⟨_,h2,h3,h4⟩
    · exact h.rch y h1
    · exact .step (h.rch x (h.sub x (by simp))) h2 h3 h4
  · rcases fold_new may N _ _ _ hy with h1 | ⟨h2,_⟩
    · by_cases q : y = x
      · subst q
        exact fold_all may N _ _ z hz hzN hzm
      · refine (fold_mono may N _ _ _).1 (h.cl y h1 (fun c => ?_) z hz hzN hzm)
        rcases List.mem_cons.1 c with c | c
        · exact q c
        · exact hyT ((fold_mono may N _ _ _).2 c)
    · exact absurd h2 hyT
theorem FI.done {may : Nat → Bool} {c N p : Nat} {O : List Nat} (h : FI may c N p ⟨[],O⟩) (x : Nat) : x ∈ O ↔ Rch c N may p x := by
  refine ⟨h.rch x,fun hx => ?_⟩
  induction hx with
  | here => exact h.has
  | step _ hy hN hm ih => exact h.cl _ ih (by simp) _ hy hN hm
end Go.Am.Top
set_option linter.unusedVariables false
set_option linter.unusedSimpArgs false
set_option maxRecDepth 10000
namespace Go.Am.Top
open Go.Am.G
abbrev nbI (p c : Nat) : List Int := [(p : Int) - (c : Int),(p : Int) - 1,(p : Int) + 1,(p : Int) + (c : Int)]
def skipB (p c N k : Nat) (x : Int) : Bool := decide (x < 0) || decide ((N : Int) ≤ x) || (decide (k = 1) && decide (p % c = 0)) || (decide (k = 2) && decide (x.tmod c = 0))
abbrev BE (Y : LV) (p r c : Nat) (nl ex : Bool) (sz : Nat) (hs : List Int) (k : Nat) : LEnv :=
  [(0,Y),(1,.elt [.int .i64 (p : Int)] 0),(2,.elt (SH r c nl ex sz hs) 0),(18,.agg ((nbI p c).map (LV.int .i64))),(19,.int .i64 (k : Int))]
theorem bes_skip (Y : LV) {r c : Nat} {hs : List Int} (S : Sho r c hs) (nl ex : Bool) (sz p k : Nat) (x : Int) (hk : k < 4) (hx : ((nbI p c).map (LV.int .i64))[k]? = some (.int .i64 x)) (hs' : skipB p c hs.length k x = true) (m : LMem) :
    exF LP ebb_Shore_beside_1.L0 (BE Y p r c nl ex sz hs k) m = exF LP ebb_Shore_beside_1.L0 (BE Y p r c nl ex sz hs (k + 1)) m := by
  have hr := fun m => river_c r c hs nl ex sz m
  have hc0 : (c : Int) ≠ 0 := by have := S.cb.1; omega
  have hrem := bin_rem .i64 (p : Int) (c : Int) hc0
  have hrem2 := bin_rem .i64 x (c : Int) hc0
  rw [tmod_nat] at hrem
  have hkl : (k : Int) < 4 := by omega
  have hw := wrap_succ (show k + 1 < 9223372036854775808 by omega)
  rw [ebb_Shore_beside_1.L0_eq]
  simp only [BE] at hx ⊢
  generalize (nbI p c).map (LV.int .i64) = A at *
  unfold skipB at hs'
  by_cases h1 : x < 0
  · simp only [ebb_Shore_beside_1.B0,beqF,exF_seq,exF_region,exF_block,exF_cond,exF_exit,exF_skip,runL,wantL,stepL,evL,evC,LEnv.at,putL,loadFine,LEnv.keep,List.map_cons,List.map_nil,nbeq,nblt,bin_add,bin_lss,natL_nat,Bool.not_true,Nat.reduceEqDiff,decide_true,decide_false,cond_true,cond_false,reduceCtorEq,Nat.mul_one,eq_self,hkl,hk,hx,h1,hw]
  · by_cases h2 : (hs.length : Int) ≤ x
    · simp only [ebb_Shore_beside_1.B0,beqF,exF_seq,exF_region,exF_block,exF_cond,exF_exit,exF_skip,runL,wantL,stepL,evL,evC,LEnv.at,putL,loadFine,loadL,cellsAt,Trk.putNew,Trk.up,Trk.touch,Trk.gives,Trk.calm,opdsOf,Trk.fresh,LEnv.keep,List.map_cons,List.map_nil,nbeq,nble,nblt,ofAVs,bin_add,bin_lss,bin_geq,natL_nat,List.any_cons,List.any_nil,Bool.or_false,Bool.or_true,Bool.and_true,Bool.false_and,Bool.not_true,Bool.not_false,Nat.reduceEqDiff,decide_true,decide_false,cond_true,cond_false,List.filter_nil,Nat.reduceAdd,Nat.reduceLeDiff,reduceCtorEq,List.length_nil,List.length_cons,Nat.mul_one,eq_self,List.append_nil,List.nil_append,List.getElem?_cons_zero,List.take_succ_cons,List.drop_zero,List.take_nil,Nat.le_refl,hkl,hk,hx,h1,hr,h2,hw]
    · simp only [h1,h2,decide_false,Bool.false_or,Bool.or_eq_true,Bool.and_eq_true,decide_eq_true_eq] at hs'
      rcases hs' with ⟨rfl,h⟩ | ⟨rfl,h⟩
      · simp only [ebb_Shore_beside_1.B0,beqT,beqF,exF_seq,exF_region,exF_block,exF_cond,exF_exit,exF_skip,runL,wantL,stepL,evL,evC,LEnv.at,putL,loadFine,loadL,cellsAt,Trk.putNew,Trk.up,Trk.touch,Trk.gives,Trk.calm,opdsOf,Trk.fresh,LEnv.keep,List.map_cons,List.map_nil,nbeq,nble,nblt,ofAVs,bin_add,bin_eql,bin_lss,bin_geq,natL_one,List.any_cons,List.any_nil,Bool.or_false,Bool.or_true,Bool.and_true,Bool.false_and,Bool.not_true,Bool.not_false,Nat.reduceEqDiff,decide_true,decide_false,cond_true,cond_false,List.filter_nil,List.filter_cons,Nat.reduceAdd,Nat.reduceLeDiff,reduceCtorEq,List.length_nil,List.length_cons,Nat.mul_one,if_true,eq_self,List.append_nil,List.nil_append,Int.natCast_zero,List.getElem?_cons_zero,List.getElem?_cons_succ,List.take_zero,List.take_succ_cons,List.drop_zero,List.drop_succ_cons,List.take_nil,Nat.le_refl,Nat.reduceLT,hx,h1,hr,h2,hrem,h,show IntKind.i64.wrap (1 + 1) = ((2 : Nat) : Int) by rfl,show ((1 : Nat) : Int) = 1 from rfl,show (1 : Int) < 4 by omega]
      · simp only [ebb_Shore_beside_1.B0,beqT,beqF,exF_seq,exF_region,exF_block,exF_cond,exF_exit,exF_skip,runL,wantL,stepL,evL,evC,LEnv.at,putL,loadFine,loadL,cellsAt,Trk.putNew,Trk.up,Trk.touch,Trk.gives,Trk.calm,opdsOf,Trk.fresh,LEnv.keep,List.map_cons,List.map_nil,nbeq,nble,nblt,ofAVs,bin_add,bin_eql,bin_lss,bin_geq,natL_two,List.any_cons,List.any_nil,Bool.or_false,Bool.or_true,Bool.and_true,Bool.false_and,Bool.not_true,Bool.not_false,Nat.reduceEqDiff,decide_true,decide_false,cond_true,cond_false,List.filter_nil,List.filter_cons,Nat.reduceAdd,Nat.reduceLeDiff,reduceCtorEq,List.length_nil,List.length_cons,Nat.mul_one,if_true,eq_self,List.append_nil,List.nil_append,Int.reduceEq,List.getElem?_cons_zero,List.getElem?_cons_succ,List.take_zero,List.take_succ_cons,List.drop_zero,List.drop_succ_cons,List.take_nil,Nat.le_refl,Nat.reduceLT,hx,h1,hr,h2,hrem2,h,show IntKind.i64.wrap (2 + 1) = ((3 : Nat) : Int) by rfl,show ((2 : Nat) : Int) = 2 from rfl,show (2 : Int) < 4 by omega]
theorem bes_ask (q : Nat) (first cap : List LV) {r c : Nat} {hs : List Int} (S : Sho r c hs) (nl ex : Bool) (sz p k : Nat) (x : Int) (hk : k < 4) (hx : ((nbI p c).map (LV.int .i64))[k]? = some (.int .i64 x)) (hs' : skipB p c hs.length k x = false) (m m' : LMem)
    (hq : clF LP q (first ++ ([.int .i64 x] ++ cap)) m = some (.W,.bool true,m')) :
    exF LP ebb_Shore_beside_1.L0 (BE (.func q first cap) p r c nl ex sz hs k) m = exF LP ebb_Shore_beside_1.L0 (BE (.func q first cap) p r c nl ex sz hs (k + 1)) m' := by
  have hr := fun m => river_c r c hs nl ex sz m
  have hc0 : (c : Int) ≠ 0 := by have := S.cb.1; omega
  have hrem := bin_rem .i64 (p : Int) (c : Int) hc0
  have hrem2 := bin_rem .i64 x (c : Int) hc0
  rw [tmod_nat] at hrem
  have hkl : (k : Int) < 4 := by omega
  have hw := wrap_succ (show k + 1 < 9223372036854775808 by omega)
  rw [ebb_Shore_beside_1.L0_eq]
  simp only [BE] at hx ⊢
  generalize (nbI p c).map (LV.int .i64) = A at *
  unfold skipB at hs'
  simp only [Bool.or_eq_false_iff,decide_eq_false_iff_not,Bool.and_eq_false_iff] at hs'
  obtain ⟨⟨⟨h1,h2⟩,h3⟩,h4⟩ := hs'
  simp only [List.cons_append,List.nil_append] at hq
  have h2' : ¬ x ≥ (hs.length : Int) := h2
  by_cases k1 : k = 1
  · subst k1
    have h3 : ¬ p % c = 0 := by simpa using h3
    have h3' : ¬ ((p % c : Nat) : Int) = 0 := by omega
    simp only [ebb_Shore_beside_1.B0,beqT,beqF,exF_seq,exF_region,exF_block,exF_cond,exF_skip,runL,wantL,stepL,evL,evC,LEnv.at,putL,loadFine,loadL,cellsAt,Trk.putNew,Trk.up,Trk.touch,Trk.gives,Trk.calm,opdsOf,Trk.fresh,LEnv.keep,List.map_cons,List.map_nil,nbeq,nble,nblt,ofAVs,bin_add,bin_eql,bin_lss,bin_geq,natL_one,List.any_cons,List.any_nil,Bool.or_false,Bool.or_true,Bool.and_true,Bool.false_and,Bool.not_true,Bool.not_false,Nat.reduceEqDiff,decide_true,decide_false,cond_true,cond_false,List.filter_nil,List.filter_cons,Nat.reduceAdd,Nat.reduceLeDiff,reduceCtorEq,List.length_nil,List.length_cons,Nat.mul_one,if_true,eq_self,List.append_nil,List.nil_append,List.cons_append,unL,List.getElem?_cons_zero,List.getElem?_cons_succ,List.take_zero,List.take_succ_cons,List.drop_zero,List.drop_succ_cons,List.take_nil,Nat.le_refl,Nat.reduceLT,hx,h1,hr,h2,hrem,h3',show IntKind.i64.wrap (1 + 1) = ((2 : Nat) : Int) by rfl,show ((1 : Nat) : Int) = 1 from rfl,show (1 : Int) < 4 by omega,hq,show ¬ (1 : Int) = 2 by omega]
  · by_cases k2 : k = 2
    · subst k2
      have h4 : ¬ x.tmod c = 0 := by simpa using h4
      simp only [ebb_Shore_beside_1.B0,beqT,beqF,exF_seq,exF_region,exF_block,exF_cond,exF_skip,runL,wantL,stepL,evL,evC,LEnv.at,putL,loadFine,loadL,cellsAt,Trk.putNew,Trk.up,Trk.touch,Trk.gives,Trk.calm,opdsOf,Trk.fresh,LEnv.keep,List.map_cons,List.map_nil,nbeq,nble,nblt,ofAVs,bin_add,bin_eql,bin_lss,bin_geq,natL_two,List.any_cons,List.any_nil,Bool.or_false,Bool.or_true,Bool.and_true,Bool.false_and,Bool.not_true,Bool.not_false,Nat.reduceEqDiff,decide_true,decide_false,cond_true,cond_false,List.filter_nil,List.filter_cons,Nat.reduceAdd,Nat.reduceLeDiff,reduceCtorEq,List.length_nil,List.length_cons,Nat.mul_one,if_true,eq_self,List.append_nil,List.nil_append,List.cons_append,unL,List.getElem?_cons_zero,List.getElem?_cons_succ,List.take_zero,List.take_succ_cons,List.drop_zero,List.drop_succ_cons,List.take_nil,Nat.le_refl,Nat.reduceLT,hx,h1,hr,h2,hrem2,h4,show IntKind.i64.wrap (2 + 1) = ((3 : Nat) : Int) by rfl,show ((2 : Nat) : Int) = 2 from rfl,show (2 : Int) < 4 by omega,hq,show ¬ (2 : Int) = 1 by omega]
    · simp only [ebb_Shore_beside_1.B0,beqT,beqF,exF_seq,exF_region,exF_block,exF_cond,exF_skip,runL,wantL,stepL,evL,evC,LEnv.at,putL,loadFine,loadL,cellsAt,Trk.putNew,Trk.up,Trk.touch,Trk.gives,Trk.calm,opdsOf,Trk.fresh,LEnv.keep,List.map_cons,List.map_nil,nbeq,nble,nblt,ofAVs,bin_add,bin_eql,bin_lss,bin_geq,natL_nat,List.any_cons,List.any_nil,Bool.or_false,Bool.or_true,Bool.and_true,Bool.false_and,Bool.not_true,Bool.not_false,Nat.reduceEqDiff,decide_true,decide_false,cond_true,cond_false,List.filter_nil,Nat.reduceAdd,Nat.reduceLeDiff,reduceCtorEq,List.length_nil,List.length_cons,Nat.mul_one,eq_self,List.append_nil,List.nil_append,List.cons_append,unL,List.getElem?_cons_zero,List.take_succ_cons,List.drop_zero,List.take_nil,Nat.le_refl,hkl,hk,hx,h1,hr,h2,hw,hq,show ¬ (k : Int) = 1 by omega,show ¬ (k : Int) = 2 by omega]
structure Asks {α : Type} (q : Nat) (first cap : List LV) (N : Nat) (mem : α → LMem) (step : α → Nat → α) : Prop where
  call : ∀ a x,x ≤ N → clF LP q (first ++ ([.int .i64 (x : Int)] ++ cap)) (mem a) = some (.W,.bool true,mem (step a x))
  len : ∀ a b,(mem a).length = (mem b).length
theorem bes_loop {α : Type} {q : Nat} {first cap : List LV} {mem : α → LMem} {step : α → Nat → α} {r c : Nat} {hs : List Int} (S : Sho r c hs) (A : Asks q first cap hs.length mem step) (nl ex : Bool) (sz p : Nat) (hp : p < hs.length) (a : α) :
    ∃ e,exF LP ebb_Shore_beside_1.L0 (BE (.func q first cap) p r c nl ex sz hs 0) (mem a) = some (.exit 0,[(0,.func q first cap),(1,.elt [.int .i64 (p : Int)] 0),(2,.elt (SH r c nl ex sz hs) 0)],mem e) ∧ (if hs.length ≤ p + c then step e hs.length else e) = (nbs p c hs.length).foldl step a := by
  have hle := S.le
  have hc1 := S.cb.1
  have hcl := S.cle
  have one : ∀ (k : Nat) (x : Int) (a : α),k < 4 → ((nbI p c).map (LV.int .i64))[k]? = some (.int .i64 x) → exF LP ebb_Shore_beside_1.L0 (BE (.func q first cap) p r c nl ex sz hs k) (mem a) = exF LP ebb_Shore_beside_1.L0 (BE (.func q first cap) p r c nl ex sz hs (k + 1)) (mem (if skipB p c hs.length k x then a else step a x.toNat)) := by
    intro k x a hk hx
    cases hb : skipB p c hs.length k x
    · have h1 : ¬ x < 0 ∧ ¬ (hs.length : Int) ≤ x := by
        unfold skipB at hb
        simp only [Bool.or_eq_false_iff,decide_eq_false_iff_not] at hb
        exact hb.1.1
      have hcall := A.call a x.toNat (by omega)
      rw [show ((x.toNat : Nat) : Int) = x by omega] at hcall
      exact bes_ask q first cap S nl ex sz p k x hk hx hb _ _ hcall
    · exact bes_skip _ S nl ex sz p k x hk hx hb _
  have e0 : ∀ a,(if skipB p c hs.length 0 ((p : Int) - (c : Int)) then a else step a ((p : Int) - (c : Int)).toNat) = (if c ≤ p then [p - c] else []).foldl step a := by
    intro a
    by_cases h : c ≤ p
    · rw [if_neg (by simp [skipB]; omega),if_pos h,show ((p : Int) - (c : Int)).toNat = p - c by omega]; rfl
    · rw [if_pos (by simp [skipB]; omega),if_neg h]; rfl
  have e1 : ∀ a,(if skipB p c hs.length 1 ((p : Int) - 1) then a else step a ((p : Int) - 1).toNat) = (if 1 ≤ p ∧ p % c ≠ 0 then [p - 1] else []).foldl step a := by
    intro a
    by_cases h : 1 ≤ p ∧ p % c ≠ 0
    · rw [if_neg (by simp [skipB,h.2]; omega),if_pos h,show ((p : Int) - 1).toNat = p - 1 by omega]; rfl
    · rw [if_neg h]
      by_cases h0 : 1 ≤ p
      · have : p % c = 0 := by
          by_cases q : p % c = 0
          · exact q
          · exact absurd ⟨h0,q⟩ h
        rw [if_pos (by simp [skipB,this])]; rfl
      · rw [if_pos (by simp [skipB]; omega)]; rfl
  have ht : ((p : Int) + 1).tmod (c : Int) = (((p + 1) % c : Nat) : Int) := by
    rw [← tmod_nat]; rfl
  have e2 : ∀ a,(if skipB p c hs.length 2 ((p : Int) + 1) then a else step a ((p : Int) + 1).toNat) = (if p + 1 < hs.length ∧ (p + 1) % c ≠ 0 then [p + 1] else []).foldl step a := by
    intro a
    by_cases h : p + 1 < hs.length ∧ (p + 1) % c ≠ 0
    · have h2 : ¬ (((p + 1) % c : Nat) : Int) = 0 := by omega
      rw [if_neg (by unfold skipB; rw [ht]; simp only [h2,decide_false,Bool.and_false,Bool.or_false]; simp; omega),if_pos h,show ((p : Int) + 1).toNat = p + 1 by omega]; rfl
    · rw [if_neg h]
      by_cases h0 : p + 1 < hs.length
      · have : (((p + 1) % c : Nat) : Int) = 0 := by
          by_cases q : (p + 1) % c = 0
          · omega
          · exact absurd ⟨h0,q⟩ h
        rw [if_pos (by unfold skipB; rw [ht,this]; simp)]; rfl
      · rw [if_pos (by simp [skipB]; omega)]; rfl
  have e3 : ∀ a,(if skipB p c hs.length 3 ((p : Int) + (c : Int)) then a else step a ((p : Int) + (c : Int)).toNat) = (if p + c < hs.length then [p + c] else []).foldl step a := by
    intro a
    by_cases h : p + c < hs.length
    · rw [if_neg (by simp [skipB]; omega),if_pos h,show ((p : Int) + (c : Int)).toNat = p + c by omega]; rfl
    · rw [if_pos (by simp [skipB]; omega),if_neg h]; rfl
  have s0 := fun a => one 0 _ a (by omega) rfl
  have s1 := fun a => one 1 _ a (by omega) rfl
  have s2 := fun a => one 2 _ a (by omega) rfl
  have s3 := fun a => one 3 _ a (by omega) rfl
  simp only [e0,e1,e2,e3] at s0 s1 s2 s3
  have fin : ∀ b,exF LP ebb_Shore_beside_1.L0 (BE (.func q first cap) p r c nl ex sz hs (3 + 1)) (mem b) = some (.exit 0,[(0,.func q first cap),(1,.elt [.int .i64 (p : Int)] 0),(2,.elt (SH r c nl ex sz hs) 0)],mem b) := by
    intro b
    rw [ebb_Shore_beside_1.L0_eq]
    simp only [BE]
    simp only [ebb_Shore_beside_1.B0,exF_seq,exF_region,exF_cond,exF_exit,runL,wantL,stepL,evL,evC,LEnv.at,putL,loadFine,LEnv.keep,List.map_cons,List.map_nil,nbeq,bin_lss,Nat.reduceEqDiff,decide_true,decide_false,cond_true,cond_false,Nat.reduceAdd,reduceCtorEq,eq_self,show (((4 : Nat)) : Int) = 4 from rfl,Int.lt_irrefl]
  refine ⟨_,(s0 a).trans ((s1 _).trans ((s2 _).trans ((s3 _).trans (fin _)))),?_⟩
  unfold nbs
  simp only [List.foldl_append]
  by_cases h : hs.length ≤ p + c
  · rw [if_pos h,if_pos h]; rfl
  · rw [if_neg h,if_neg h]; rfl
theorem beside1_c {α : Type} {q : Nat} {first cap : List LV} {mem : α → LMem} {step : α → Nat → α} {r c : Nat} {hs : List Int} (S : Sho r c hs) (A : Asks q first cap hs.length mem step) (nl ex : Bool) (sz p : Nat) (hp : p < hs.length) (a : α) :
    clF LP n_ebb_Shore_beside_1 [.func q first cap,.elt [.int .i64 (p : Int)] 0,.elt (SH r c nl ex sz hs) 0] (mem a) = some (.W,.tup [],mem ((nbs p c hs.length).foldl step a)) := by
  obtain ⟨e,h1,h2⟩ := bes_loop S A nl ex sz p hp a
  have hle := S.le
  have hc := S.cb
  have hr := fun m => river_c r c hs nl ex sz m
  have w1 : IntKind.i64.wrap ((p : Int) - (c : Int)) = (p : Int) - (c : Int) := wrap_in (by omega)
  have w2 : IntKind.i64.wrap ((p : Int) - 1) = (p : Int) - 1 := wrap_in (by omega)
  have w3 : IntKind.i64.wrap ((p : Int) + 1) = (p : Int) + 1 := wrap_in (by omega)
  have w4 : IntKind.i64.wrap ((p : Int) + (c : Int)) = (p : Int) + (c : Int) := wrap_in (by omega)
  have w5 : IntKind.i64.wrap ((hs.length : Int) - (c : Int)) = (hs.length : Int) - (c : Int) := wrap_in (by omega)
  rw [← h2]
  simp only [BE,nbI,List.map_cons,List.map_nil,Int.natCast_zero] at h1
  have key : ∀ e',retL ebb_Shore_beside_1.results (exF LP ebb_Shore_beside_1.body (LEnv.ofFrom 0 [.func q first cap,.elt [.int .i64 (p : Int)] 0,.elt (SH r c nl ex sz hs) 0]) (mem a)) = some (.tup [],mem e') →
      clF LP n_ebb_Shore_beside_1 [.func q first cap,.elt [.int .i64 (p : Int)] 0,.elt (SH r c nl ex sz hs) 0] (mem a) = some (.W,.tup [],mem e') := by
    intro e' h
    have := call_W lp_ebb_Shore_beside_1 rfl h
    rwa [trim_le _ _ _ (by rw [A.len e' a]; exact Nat.le_refl _)] at this
  apply key
  by_cases h : hs.length ≤ p + c
  · have hq := A.call e hs.length (Nat.le_refl _)
    simp only [List.cons_append,List.nil_append] at hq
    rw [if_pos h]
    simp only [ebb_Shore_beside_1,ebb_Shore_beside_1.B,exF_seq,exF_region,exF_block,exF_cond,runL,wantL,stepL,evL,evC,LEnv.at,putL,loadFine,loadL,cellsAt,Trk.putNew,Trk.up,Trk.touch,Trk.gives,Trk.calm,opdsOf,Trk.fresh,LEnv.keep,LEnv.ofFrom,List.map_cons,List.map_nil,nbeq,nble,ofAV,ofAVs,bin_add,bin_sub,bin_geq,List.any_cons,List.any_nil,Bool.or_false,Bool.or_true,Bool.and_true,Bool.false_and,Bool.not_true,Bool.not_false,Nat.reduceEqDiff,decide_true,decide_false,cond_true,cond_false,List.filter_nil,List.filter_cons,Nat.reduceAdd,Nat.reduceLeDiff,reduceCtorEq,List.length_nil,List.length_cons,if_true,eq_self,retL,resultsL,resAllL,List.append_nil,List.nil_append,List.cons_append,LV.cells,List.getElem?_cons_zero,List.getElem?_cons_succ,spliceL,List.take_zero,List.take_succ_cons,List.drop_zero,List.drop_succ_cons,List.drop_nil,List.take_nil,Nat.le_refl,fillL,w1,w2,w3,w4,w5,h1,hr,hq,show (p : Int) ≥ (hs.length : Int) - (c : Int) by omega]
  · rw [if_neg h]
    simp only [ebb_Shore_beside_1,ebb_Shore_beside_1.B,exF_seq,exF_region,exF_block,exF_cond,exF_skip,runL,wantL,stepL,evL,evC,LEnv.at,putL,loadFine,loadL,cellsAt,Trk.putNew,Trk.up,Trk.touch,Trk.gives,Trk.calm,opdsOf,Trk.fresh,LEnv.keep,LEnv.ofFrom,List.map_cons,List.map_nil,nbeq,nble,ofAV,ofAVs,bin_add,bin_sub,bin_geq,List.any_cons,List.any_nil,Bool.or_false,Bool.or_true,Bool.and_true,Bool.false_and,Bool.not_true,Bool.not_false,Nat.reduceEqDiff,decide_true,decide_false,cond_true,cond_false,List.filter_nil,List.filter_cons,Nat.reduceAdd,Nat.reduceLeDiff,reduceCtorEq,List.length_nil,List.length_cons,if_true,eq_self,retL,resultsL,resAllL,List.append_nil,List.nil_append,List.cons_append,LV.cells,List.getElem?_cons_zero,List.getElem?_cons_succ,spliceL,List.take_zero,List.take_succ_cons,List.drop_zero,List.drop_succ_cons,List.drop_nil,List.take_nil,Nat.le_refl,fillL,w1,w2,w3,w4,w5,h1,hr,show ¬ (p : Int) ≥ (hs.length : Int) - (c : Int) by omega]
theorem beside_c (r c : Nat) (hs : List Int) (nl ex : Bool) (sz p : Nat) (m : LMem) :
    clF LP n_ebb_Shore_beside [.agg (SH r c nl ex sz hs),.int .i64 (p : Int)] m = some (.P,.func n_ebb_Shore_beside_1 [] [.elt [.int .i64 (p : Int)] 0,.elt (SH r c nl ex sz hs) 0],m) := by
  refine call_Pv lp_ebb_Shore_beside rfl (by simp [LV.pures,LV.pure]) (m1 := [⟨SH r c nl ex sz hs,true⟩,⟨[.int .i64 (p : Int)],true⟩]) (ids := [1,0]) (v := .func n_ebb_Shore_beside_1 [] [.ptr 1 0 1,.ptr 0 0 3]) ?_ ?_ m
  · simp only [ebb_Shore_beside,ebb_Shore_beside.B,exF_seq,exF_region,exF_ret,runL,wantL,stepL,evL,evC,LEnv.at,putL,loadFine,LEnv.keep,LEnv.ofFrom,List.map_cons,List.map_nil,nbeq,Nat.reduceEqDiff,decide_true,decide_false,cond_true,cond_false,Nat.reduceAdd,reduceCtorEq,List.length_nil,List.length_cons,eq_self,retL,resultsL,resAllL,resOfL,List.nil_append,List.cons_append,LV.cells,allocL]
  · simp [view,viewL,viewC,LV.pures,LV.pure]
end Go.Am.Top
