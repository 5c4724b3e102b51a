import Derived.Test.YtheppipmnfjdcaaDoorRdC15
import Derived.Test.YtheppipmnfjdcaaDoorRdC11
import Derived.Test.YtheppipmnfjdcaaDoorRdD1
import Derived.Test.YtheppipmnfjdcaaDoorRdD3
import Derived.KernelRfl
set_option linter.unusedVariables false
set_option linter.unusedSimpArgs false
namespace Go.Am.Ring
theorem ords_in (n : Nat) : ∀ (u done : Nat) (o : List Nat),o.Nodup → o.length = u → (∀ x ∈ o,x < n ∧ done.testBit x = false) → o ∈ compsU anyM n u done
  | 0,done,o,_,h,_ => by rw [List.length_eq_zero_iff.1 h]; simp [compsU]
  | u + 1,done,[],_,h,_ => by simp at h
  | u + 1,done,f :: r,hnd,h,hx => by
    rw [List.nodup_cons] at hnd
    rw [compsU,List.mem_flatMap]
    have hf := hx f (by simp)
    refine ⟨f,List.mem_range.2 hf.1,?_⟩
    rw [if_neg (by simp [hf.2,anyM]),List.mem_map]
    refine ⟨r,ords_in n u _ r hnd.2 (by simpa using h) fun x hxr => ⟨(hx x (by simp [hxr])).1,?_⟩,rfl⟩
    have : ¬ f = x := fun e => hnd.1 (e ▸ hxr)
    rw [or_bit,(hx x (by simp [hxr])).2]
    simp [this]
theorem ords_iff {n : Nat} {o : List Nat} : o ∈ ords n ↔ o.Nodup ∧ o.length = n ∧ ∀ x ∈ o,x < n :=
  ⟨fun h => ⟨(ords_ok h).1,(ords_ok h).2.1,(ords_ok h).2.2.1⟩,fun h => ords_in n n 0 o h.1 h.2.1 fun x hx => ⟨h.2.2 x hx,by simp⟩⟩
structure Rel (n : Nat) (σ τ : Nat → Nat) : Prop where
  lt : ∀ x,x < n → σ x < n
  lt' : ∀ x,x < n → τ x < n
  l : ∀ x,x < n → τ (σ x) = x
  r : ∀ x,x < n → σ (τ x) = x
theorem Rel.symm {n : Nat} {σ τ : Nat → Nat} (h : Rel n σ τ) : Rel n τ σ := ⟨h.lt',h.lt,h.r,h.l⟩
theorem Rel.inj {n : Nat} {σ τ : Nat → Nat} (h : Rel n σ τ) {x y : Nat} (hx : x < n) (hy : y < n) (e : σ x = σ y) : x = y := by
  have := congrArg τ e
  rwa [h.l x hx,h.l y hy] at this
abbrev pmap (σ : Nat → Nat) (P : List (Nat × Nat)) : List (Nat × Nat) := P.map fun p => (σ p.1,σ p.2)
section
variable {n : Nat} {σ τ : Nat → Nat} (R : Rel n σ τ) {P Q : List (Nat × Nat)} (G : Good n P) (GQ : Good n Q) (hQ : Q.Perm (pmap σ P))
include R G GQ hQ
end
theorem cyc_rot {n : Nat} {P : List (Nat × Nat)} (G : Good n P) {c : List Nat} (C : Cyc P c) : ∃ o,o ∈ allR P ∧ ∀ x,x ∈ o ↔ x ∈ c := by
  obtain ⟨m,hm,hmin⟩ : ∃ m ∈ c,∀ k ∈ c,m ≤ k := by
    have : ∀ l : List Nat,l ≠ [] → ∃ m ∈ l,∀ k ∈ l,m ≤ k := by
      intro l
      induction l with
      | nil => intro h; exact absurd rfl h
      | cons a l ih =>
        intro _
        by_cases hl : l = []
        · subst hl; exact ⟨a,by simp,by simp⟩
        · obtain ⟨m,h1,h2⟩ := ih hl
          by_cases c : a ≤ m
          · exact ⟨a,by simp,fun k hk => by
              rcases List.mem_cons.1 hk with rfl | hk
              · omega
              · have := h2 k hk; omega⟩
          · exact ⟨m,by simp [h1],fun k hk => by
              rcases List.mem_cons.1 hk with rfl | hk
              · omega
              · exact h2 k hk⟩
    exact this c C.ne
  obtain ⟨l1,l2,rfl⟩ := List.append_of_mem hm
  have hch := (chain_append l1 (m :: l2)).1 C.ch
  have hcl := C.cl
  rw [lastD_app l1 (m :: l2) (by simp)] at hcl
  have hnd := C.nd
  have hperm : ((m :: l2 ++ l1).map (st P)).Perm ((l1 ++ m :: l2).map (st P)) := (List.perm_append_comm).map _
  refine ⟨m :: l2 ++ l1,(allR_mem G _).2 ⟨⟨by simp,?_,hperm.nodup_iff.2 hnd,?_,?_⟩,?_⟩,fun x => (List.perm_append_comm).mem_iff⟩
  · intro k hk
    exact C.lt k ((List.perm_append_comm).mem_iff.1 hk)
  · refine (chain_append (m :: l2) l1).2 ⟨hch.2.1,hch.1,fun _ hl => ?_⟩
    rw [hcl,headD_app l1 _ hl]
  · by_cases hl : l1 = []
    · subst hl; simpa using hcl
    · rw [lastD_app _ _ hl]
      exact hch.2.2 hl (by simp)
  · intro k hk
    have hk' : k ∈ l2 ++ l1 := hk
    have h1 := hmin k (by
      rcases List.mem_append.1 hk' with h | h
      · simp [h]
      · simp [h])
    have h2 : k ≠ m := by
      intro e
      subst e
      have := hperm.nodup_iff.2 hnd
      rw [show k :: l2 ++ l1 = k :: (l2 ++ l1) from rfl,List.map_cons,List.nodup_cons] at this
      exact this.1 (List.mem_map.2 ⟨k,hk',rfl⟩)
    show m < k
    omega
structure RelF (P Q : List (Nat × Nat)) (σ ρ : Nat → Nat) : Prop where
  lt : ∀ k,k < P.length → ρ k < Q.length
  st' : ∀ k,k < P.length → st Q (ρ k) = σ (st P k)
  en' : ∀ k,k < P.length → en Q (ρ k) = σ (en P k)
  inj : ∀ k,k < P.length → ∀ l,l < P.length → ρ k = ρ l → k = l
end Go.Am.Ring
set_option linter.unusedVariables false
set_option linter.unusedSimpArgs false
set_option maxRecDepth 10000
namespace Go.Am.Ring
open Go.Am.G
def drw (bs : List Nat) : Nat → Nat → List Nat → List Nat → List Nat
  | 0,_,_,out => out
  | d + 1,i,left,out => drw bs d (i + 1) (left.eraseIdx (bs.getD i 0 % left.length)) (out ++ [left.getD (bs.getD i 0 % left.length) 0])
abbrev drawn (n : Nat) (bs : List Nat) : List Nat := drw bs n 0 (List.range n) []
end Go.Am.Ring
set_option linter.unusedVariables false
set_option linter.unusedSimpArgs false
set_option maxRecDepth 10000
namespace Go.Am.Ring
open Go.Am.G
theorem tz_gen (TL : List LV) (hTL : evC (.ptr 1 0) = .elt TL 0) {X a b c d : LV} {j : Nat} {k' : IntKind} {n : Int} (h0 : binL .eql X (.int .u64 0) = some (.bool false)) (ha : unL UnOp.neg X = some a) (hb : binL BinOp.and X a = some b)
    (hc : binL BinOp.mul b (.int .u64 285870213051353865) = some c) (hd : binL BinOp.shr c (LV.int IntKind.u64 58) = some d) (hj : natL d = some j) (hlt' : j < 64) (ht : TL[j]? = some (.int k' n)) : retL math_bits_TrailingZeros64.results (exF LP math_bits_TrailingZeros64.body (LEnv.ofFrom 0 [X]) []) = some (.int .i64 (IntKind.i64.wrap n),[]) := by
  simp only [math_bits_TrailingZeros64,math_bits_TrailingZeros64.B,exF_seq,exF_region,exF_cond,exF_ret,exF_skip,runL,wantL,stepL,evL,evC_int,LEnv.at,putL,loadFine,loadL,cellsAt,Trk.putNew,Trk.up,Trk.touch,Trk.gives,Trk.calm,opdsOf,Trk.fresh,LEnv.keep,LEnv.ofFrom,List.map_cons,List.map_nil,nbeq,nble,nblt,List.any_cons,List.any_nil,Bool.or_false,Bool.or_true,Bool.and_true,Bool.false_and,Bool.not_true,Bool.not_false,Nat.reduceEqDiff,decide_true,decide_false,cond_true,cond_false,List.filter_nil,Nat.reduceAdd,Nat.reduceLeDiff,reduceCtorEq,List.length_nil,Nat.mul_one,eq_self,retL,resultsL,resAllL,resOfL,hTL,h0,ha,hb,hc,hd,hj,hlt',Nat.mul_one,Nat.zero_add,ht]
theorem tz_run {x : Nat} (h0 : ¬ (x : Int) = 0) {v : LV} (h : chTZ x = some v) (hv : v.pure = true) (m : LMem) : clF LP n_math_bits_TrailingZeros [.int .u64 (x : Int)] m = some (.P,v,m) := by
  obtain ⟨a,ha,h⟩ := bind_some' h
  obtain ⟨b,hb,h⟩ := bind_some' h
  obtain ⟨c,hc,h⟩ := bind_some' h
  obtain ⟨d,hd,h⟩ := bind_some' h
  obtain ⟨j,hj,h⟩ := bind_some' h
  cases hlt : Nat.blt j 64
  · rw [hlt] at h; cases h
  rw [hlt,cond_true] at h
  obtain ⟨t,ht,h⟩ := bind_some' h
  obtain ⟨k',n,rfl,rfl⟩ := cnvL_some h
  have hlt' : j < 64 := by simpa [nblt] using hlt
  have h64 : ∀ m,clF LP n_math_bits_TrailingZeros64 [.int .u64 (x : Int)] m = some (.P,.int .i64 (IntKind.i64.wrap n),m) := fun m =>
    call_P lp_math_bits_TrailingZeros64 rfl rfl (m1 := []) (tz_gen tabLV glo1' (by rw [bin_eql,decide_eq_false h0]) ha hb hc hd hj hlt' ht) rfl m
  refine call_P lp_math_bits_TrailingZeros rfl rfl (m1 := []) ?_ rfl m
  simp only [math_bits_TrailingZeros,math_bits_TrailingZeros.B,exF_seq,exF_region,exF_cond,exF_ret,exF_skip,runL,wantL,stepL,evL,evC_int,evC_bool,evC_func,LEnv.at,putL,loadFine,LEnv.keep,LEnv.ofFrom,List.map_cons,List.map_nil,nbeq,ofAVs,Nat.reduceEqDiff,decide_true,decide_false,cond_true,cond_false,reduceCtorEq,eq_self,retL,resultsL,resAllL,resOfL,List.append_nil,List.nil_append,h64]
theorem tz_c {x : Nat} (hx : x < 4096) (h0 : x ≠ 0) : (∀ m,clF LP n_math_bits_TrailingZeros [.int .u64 (x : Int)] m = some (.P,.int .i64 ((tzP 12 x : Nat) : Int),m)) ∧ tzP 12 x < 12 ∧ x &&& (x - 1) = x - 2 ^ tzP 12 x ∧ x % 2 ^ tzP 12 x = 0 ∧ x / 2 ^ tzP 12 x % 2 = 1 := by
  have h := four tzOk_0 tzOk_1 tzOk_2 tzOk_3 hx
  simp only [tzOk,Bool.or_eq_true,Bool.and_eq_true,nbeq,nblt,decide_eq_true_eq] at h
  rcases h with h | ⟨h1,h2,h3,h4,h5⟩
  · exact absurd h h0
  · exact ⟨fun m => tz_run (by omega) (isN_some h1) rfl m,h2,h3,h4,h5⟩
theorem num_step {x : Nat} (hx : x < 4096) (h0 : x ≠ 0) : numL x = tzP 12 x :: numL (x &&& (x - 1)) := by
  obtain ⟨_,h3,h4,h5,h6⟩ := tz_c hx h0
  rw [h4]
  generalize tzP 12 x = t at *
  have hd := Nat.div_add_mod x (2 ^ t)
  rw [h5,Nat.add_zero] at hd
  have hm2 := Nat.div_add_mod (x / 2 ^ t) 2
  rw [h6] at hm2
  have hle : 2 ^ t ≤ x := by
    rw [← hd]
    exact Nat.le_mul_of_pos_right _ (by omega)
  have hb : ∀ i,x.testBit i = ((x - 2 ^ t).testBit i || decide (t = i)) ∧ (i ≤ t → (x - 2 ^ t).testBit i = false) := by
    have e1 : x - 2 ^ t = 2 ^ (t + 1) * (x / 2 ^ t / 2) := by
      rw [Nat.pow_succ,Nat.mul_assoc]
      have : 2 ^ t * (x / 2 ^ t) = 2 ^ t * (2 * (x / 2 ^ t / 2)) + 2 ^ t := by rw [← Nat.mul_add_one,hm2]
      omega
    intro i
    have hlow : i ≤ t → (x - 2 ^ t).testBit i = false := fun hi => by
      rw [e1,Nat.testBit_two_pow_mul]; simp; omega
    refine ⟨?_,hlow⟩
    have e2 : x = 2 ^ (t + 1) * (x / 2 ^ t / 2) ||| 2 ^ t := by
      rw [← Nat.two_pow_add_eq_or_of_lt (Nat.pow_lt_pow_right (by omega) (by omega)),← e1]; omega
    conv => lhs; rw [e2]
    rw [Nat.testBit_or,Nat.testBit_two_pow,e1]
  have hr : List.range 12 = List.range t ++ t :: List.range' (t + 1) (12 - (t + 1)) := by
    have := List.range'_append_1 (s := 0) (m := t) (n := 12 - t)
    rw [Nat.zero_add,show t + (12 - t) = 12 by omega] at this
    rw [List.range_eq_range',← this,List.range_eq_range',show 12 - t = (12 - (t + 1)) + 1 by omega,List.range'_succ]
  unfold numL
  rw [hr,List.filter_append,List.filter_append,List.filter_cons,List.filter_cons]
  have f1 : (List.range t).filter (fun i => x.testBit i) = [] := List.filter_eq_nil_iff.2 fun i hi => by
    have := List.mem_range.1 hi
    rw [(hb i).1,(hb i).2 (by omega)]
    simp; omega
  have f2 : (List.range t).filter (fun i => (x - 2 ^ t).testBit i) = [] := List.filter_eq_nil_iff.2 fun i hi => by
    have := List.mem_range.1 hi
    rw [(hb i).2 (by omega)]; simp
  have f3 : x.testBit t = true := by rw [(hb t).1]; simp
  have f4 : (x - 2 ^ t).testBit t = false := (hb t).2 (Nat.le_refl _)
  rw [f1,f2,if_pos f3,if_neg (by rw [f4]; simp),List.nil_append,List.nil_append]
  congr 1
  refine List.filter_congr fun i hi => ?_
  have := (List.mem_range'_1.1 hi).1
  rw [(hb i).1]
  have : ¬ t = i := by omega
  simp [this]
theorem num_loop (d : Nat) : ∀ (S : Nat) (out : List Nat) (M : LMem) (v : LV),(numL S).length = d → S < 4096 → out.length + d ≤ 1000 → Lst M v 1 out.length (ints (ci out)) →
    ∃ v' M',exF LP law04_numbers.L0 [(0,.int .u64 (S : Int)),(3,v)] M = some (.exit 0,[(3,v')],M') ∧ Lst M' v' 1 (out ++ numL S).length (ints (ci (out ++ numL S))) := by
  induction d with
  | zero =>
    intro S out M v hd hS ho hL
    have h0 : S = 0 := by
      rcases Nat.eq_zero_or_pos S with h | h
      · exact h
      · rw [num_step hS (by omega)] at hd; simp at hd
    subst h0
    refine ⟨v,M,?_,by rw [numL_zero,List.append_nil]; exact hL⟩
    rw [law04_numbers.L0_eq]
    simp only [law04_numbers.B0,exF_seq,exF_region,exF_cond,exF_exit,runL,wantL,stepL,evL,evC,LEnv.at,putL,loadFine,LEnv.keep,List.map_cons,List.map_nil,nbeq,bin_neq,Nat.reduceEqDiff,decide_true,decide_false,cond_true,cond_false,reduceCtorEq,eq_self,not_true_eq_false,ne_eq,Int.natCast_zero]
  | succ d ih =>
    intro S out M v hd hS ho hL
    have h0 : S ≠ 0 := fun e => by subst e; rw [numL_zero] at hd; simp at hd
    have h0' : ¬ (S : Int) = 0 := by omega
    obtain ⟨htz,_⟩ := tz_c hS h0
    have hst := num_step hS h0
    rw [hst,List.length_cons] at hd
    have hle : S &&& (S - 1) ≤ S := Nat.and_le_left
    have hpred := bits_pred (a := S) (by omega) (by omega)
    have hand := bits_and (a := S) (b := S - 1) (by omega) (by omega)
    obtain ⟨v2,m2,hap,hL2,_,_,_⟩ := hL.append (x := .lst false true 1 1 [.int .i64 ((tzP 12 S : Nat) : Int)]) (k := 1) (news := [.int .i64 ((tzP 12 S : Nat) : Int)]) (bytes := 8) (by simp [contents,nbeq]) rfl (by omega) (by omega) rfl
    have hL2 : Lst m2 v2 1 (out ++ [tzP 12 S]).length (ints (ci (out ++ [tzP 12 S]))) := by
      have e : ints (ci (out ++ [tzP 12 S])) = ints (ci out) ++ [.int .i64 ((tzP 12 S : Nat) : Int)] := by simp
      rw [e]; simpa using hL2
    obtain ⟨v',M',hex,hL'⟩ := ih (S &&& (S - 1)) (out ++ [tzP 12 S]) m2 v2 (by omega) (by omega) (by simp; omega) hL2
    refine ⟨v',M',?_,by rw [hst,List.append_cons]; exact hL'⟩
    rw [law04_numbers.L0_eq]
    generalize (S &&& (S - 1) : Nat) = S2 at *
    generalize tzP 12 S = t at *
    simp only [law04_numbers.B0,exF_seq,exF_region,exF_block,exF_cond,exF_skip,runL,wantL,stepL,evL,evC,LEnv.at,putL,loadFine,LEnv.keep,List.map_cons,List.map_nil,nbeq,nble,ofAV,ofAVs,bin_neq,Bool.or_false,Bool.and_true,Nat.reduceEqDiff,decide_true,decide_false,cond_true,cond_false,Nat.reduceAdd,reduceCtorEq,List.length_nil,List.length_cons,Nat.mul_one,eq_self,List.append_nil,List.nil_append,not_false_eq_true,ne_eq,views_pures,LV.pures,LV.pure,freeze,Nat.reduceDiv,LV.cells,spliceL,List.take_zero,List.take_succ_cons,List.drop_succ_cons,List.drop_nil,List.take_nil,Nat.le_refl,fillL,h0',htz,hap,hpred,hand,hex]
theorem num_le (S : Nat) : (numL S).length ≤ 12 := by
  have := List.length_filter_le (fun i => S.testBit i) (List.range 12)
  rw [List.length_range] at this
  exact this
theorem numbers_c {S : Nat} (hS : S < 4096) : ∃ a b z,(numL S = [] ∨ (a = false ∧ z = 1)) ∧ ∀ m,clF LP n_law04_numbers [.int .u64 (S : Int)] m = some (.P,IL a b z (ci (numL S)),m) := by
  have hle := num_le S
  obtain ⟨v',M',hex,hL⟩ := num_loop (numL S).length S [] [] (.lst true true 0 0 []) rfl hS (by simp; omega) (Lst.nil [] 1)
  rw [List.nil_append] at hL
  obtain ⟨a,b,z,ids,hz,hn,_,hvw⟩ := hL.view (pures_int _ _) (by omega)
  refine ⟨a,b,z,?_,fun m => ?_⟩
  · by_cases c : numL S = []
    · exact .inl c
    · have hl : (numL S).length ≠ 0 := fun e => c (List.length_eq_zero_iff.1 e)
      refine .inr ⟨?_,hz.resolve_left hl⟩
      cases a
      · rfl
      · exact absurd (hn rfl) hl
  · have hcl := ci_len (numL S)
    simp only [IL,hcl]
    refine call_Pv lp_law04_numbers rfl rfl (m1 := M') (v := v') (ids := ids) ?_ (hvw 97) m
    simp only [law04_numbers,law04_numbers.B,exF_seq,exF_region,exF_block,exF_ret,runL,wantL,stepL,evL,evC,LEnv.at,putL,loadFine,LEnv.keep,LEnv.ofFrom,List.map_cons,List.map_nil,nbeq,Nat.reduceEqDiff,decide_true,decide_false,cond_true,cond_false,reduceCtorEq,eq_self,retL,resultsL,resAllL,resOfL,hex]
end Go.Am.Ring
