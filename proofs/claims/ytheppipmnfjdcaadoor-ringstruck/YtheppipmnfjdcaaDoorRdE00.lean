import Derived.Test.YtheppipmnfjdcaaDoorRdL
import Derived.Test.YtheppipmnfjdcaaDoorLm13
import Derived.Test.YtheppipmnfjdcaaDoorLm14
import Derived.KernelRfl
import Derived.Test.YtheppipmnfjdcaaDoorRdP9
import Derived.Test.YtheppipmnfjdcaaDoorRdC9
import Derived.Test.YtheppipmnfjdcaaDoorRdD1
import Derived.Test.YtheppipmnfjdcaaDoorRdD3
set_option linter.unusedVariables false
set_option linter.unusedSimpArgs false
set_option maxRecDepth 10000
namespace Go.Am.Ring
open Go.Am.G
def allUp (p : Nat → Bool) : Nat → Bool
  | 0 => true
  | n + 1 => cond (p n) (allUp p n) false
theorem allUp_at (p : Nat → Bool) : ∀ n,allUp p n = true → ∀ x,x < n → p x = true
  | 0,_,x,hx => by omega
  | n + 1,h,x,hx => by
    simp only [allUp] at h
    cases hc : p n <;> rw [hc] at h
    · cases h
    · by_cases e : x = n
      · subst e; exact hc
      · exact allUp_at p n h x (by omega)
def numL (S : Nat) : List Nat := (List.range 12).filter fun i => S.testBit i
theorem numL_mem {S x : Nat} : x ∈ numL S ↔ x < 12 ∧ S.testBit x = true := by simp [numL]
theorem numL_zero : numL 0 = [] := by decide
def tzP : Nat → Nat → Nat
  | 0,_ => 0
  | u + 1,x => cond (Nat.beq (x % 2) 1) 0 (tzP u (x / 2) + 1)
theorem evC_int (k : IntKind) (n : Int) : evC (.int k n) = .int k n := rfl
theorem evC_bool (b : Bool) : evC (.bool b) = .bool b := rfl
theorem evC_func (f : Nat) (a b : List AV) : evC (.func f a b) = .func f (ofAVs a) (ofAVs b) := rfl
def tabLV : List LV := tab1.map (LV.int .u8)
theorem glo1' : evC (.ptr 1 0) = .elt tabLV 0 := rfl
def cnvL (k : IntKind) : LV → Option LV
  | .int _ n => some (.int k (k.wrap n))
  | _ => none
theorem cnvL_some {k : IntKind} {v w : LV} (h : cnvL k v = some w) : ∃ k' n,v = .int k' n ∧ w = .int k (k.wrap n) := by
  cases v with
  | int k' n => cases h; exact ⟨k',n,rfl,rfl⟩
  | _ => cases h
theorem bind_some' {α β : Type} {o : Option α} {f : α → Option β} {v : β} (h : o.bind f = some v) : ∃ a,o = some a ∧ f a = some v := by
  cases o with
  | none => cases h
  | some a => exact ⟨a,rfl,h⟩
def chTZ (x : Nat) : Option LV :=
  (unL .neg (.int .u64 (x : Int))).bind fun a => (binL .and (.int .u64 (x : Int)) a).bind fun b => (binL .mul b (.int .u64 285870213051353865)).bind fun c => (binL .shr c (.int .u64 58)).bind fun d => (natL d).bind fun j => cond (Nat.blt j 64) (tabLV[j]?.bind fun v => cnvL .i64 v) none
def chOC (x : Nat) : Option LV :=
  (binL .shr (.int .u64 (x : Int)) (.int .u64 1)).bind fun a => (binL .and a (.int .u64 6148914691236517205)).bind fun b => (binL .and (.int .u64 (x : Int)) (.int .u64 6148914691236517205)).bind fun c => (binL .add b c).bind fun x1 =>
  (binL .shr x1 (.int .u64 2)).bind fun a1 => (binL .and a1 (.int .u64 3689348814741910323)).bind fun b1 => (binL .and x1 (.int .u64 3689348814741910323)).bind fun c1 => (binL .add b1 c1).bind fun x2 =>
  (binL .shr x2 (.int .u64 4)).bind fun a2 => (binL .add a2 x2).bind fun b2 => (binL .and b2 (.int .u64 1085102592571150095)).bind fun x3 =>
  (binL .shr x3 (.int .u64 8)).bind fun a3 => (binL .add x3 a3).bind fun x4 => (binL .shr x4 (.int .u64 16)).bind fun a4 => (binL .add x4 a4).bind fun x5 => (binL .shr x5 (.int .u64 32)).bind fun a5 => (binL .add x5 a5).bind fun x6 =>
  (cnvL .i64 x6).bind fun y => binL .and y (.int .i64 127)
def isN (r : Option LV) (t : Nat) : Bool := match r with
  | some (.int .i64 n) => decide (n = (t : Int))
  | _ => false
theorem isN_some {r : Option LV} {t : Nat} (h : isN r t = true) : r = some (.int .i64 (t : Int)) := by
  unfold isN at h
  split at h
  · rename_i n
    have e : n = (t : Int) := of_decide_eq_true h
    rw [e]
  · cases h
def tzOk (x : Nat) : Bool := Nat.beq x 0 || (isN (chTZ x) (tzP 12 x) && (Nat.blt (tzP 12 x) 12 && (Nat.beq (x &&& (x - 1)) (x - 2 ^ tzP 12 x) && (Nat.beq (x % 2 ^ tzP 12 x) 0 && Nat.beq (x / 2 ^ tzP 12 x % 2) 1))))
def pcOk (x : Nat) : Bool := isN (chOC x) (numL x).length
theorem tzOk_0 : allUp (fun x => tzOk (0 + x)) 1024 = true := by kernel_rfl
theorem tzOk_1 : allUp (fun x => tzOk (1024 + x)) 1024 = true := by kernel_rfl
theorem tzOk_2 : allUp (fun x => tzOk (2048 + x)) 1024 = true := by kernel_rfl
theorem tzOk_3 : allUp (fun x => tzOk (3072 + x)) 1024 = true := by kernel_rfl
theorem pcOk_0 : allUp (fun x => pcOk (0 + x)) 1024 = true := by kernel_rfl
theorem pcOk_1 : allUp (fun x => pcOk (1024 + x)) 1024 = true := by kernel_rfl
theorem pcOk_2 : allUp (fun x => pcOk (2048 + x)) 1024 = true := by kernel_rfl
theorem pcOk_3 : allUp (fun x => pcOk (3072 + x)) 1024 = true := by kernel_rfl
theorem four {p : Nat → Bool} (h0 : allUp (fun x => p (0 + x)) 1024 = true) (h1 : allUp (fun x => p (1024 + x)) 1024 = true) (h2 : allUp (fun x => p (2048 + x)) 1024 = true) (h3 : allUp (fun x => p (3072 + x)) 1024 = true) {x : Nat} (hx : x < 4096) : p x = true := by
  by_cases c0 : x < 1024
  · have := allUp_at _ 1024 h0 x (by omega)
    rwa [show 0 + x = x by omega] at this
  by_cases c1 : x < 2048
  · have := allUp_at _ 1024 h1 (x - 1024) (by omega)
    rwa [show 1024 + (x - 1024) = x by omega] at this
  by_cases c2 : x < 3072
  · have := allUp_at _ 1024 h2 (x - 2048) (by omega)
    rwa [show 2048 + (x - 2048) = x by omega] at this
  have := allUp_at _ 1024 h3 (x - 3072) (by omega)
  rwa [show 3072 + (x - 3072) = x by omega] at this
end Go.Am.Ring
set_option linter.unusedVariables false
set_option linter.unusedSimpArgs false
namespace Go.Am.Ring
structure Rel (n : Nat) (σ τ : Nat → Nat) : Prop where
  lt : ∀ x,x < n → σ x < n
  lt' : ∀ x,x < n → τ x < n
  l : ∀ x,x < n → τ (σ x) = x
  r : ∀ x,x < n → σ (τ x) = x
theorem Rel.symm {n : Nat} {σ τ : Nat → Nat} (h : Rel n σ τ) : Rel n τ σ := ⟨h.lt',h.lt,h.r,h.l⟩
theorem Rel.inj {n : Nat} {σ τ : Nat → Nat} (h : Rel n σ τ) {x y : Nat} (hx : x < n) (hy : y < n) (e : σ x = σ y) : x = y := by
  have := congrArg τ e
  rwa [h.l x hx,h.l y hy] at this
abbrev pmap (σ : Nat → Nat) (P : List (Nat × Nat)) : List (Nat × Nat) := P.map fun p => (σ p.1,σ p.2)
section
variable {n : Nat} {σ τ : Nat → Nat} (R : Rel n σ τ) {P Q : List (Nat × Nat)} (G : Good n P) (GQ : Good n Q) (hQ : Q.Perm (pmap σ P))
include R G GQ hQ
end
structure RelF (P Q : List (Nat × Nat)) (σ ρ : Nat → Nat) : Prop where
  lt : ∀ k,k < P.length → ρ k < Q.length
  st' : ∀ k,k < P.length → st Q (ρ k) = σ (st P k)
  en' : ∀ k,k < P.length → en Q (ρ k) = σ (en P k)
  inj : ∀ k,k < P.length → ∀ l,l < P.length → ρ k = ρ l → k = l
end Go.Am.Ring
set_option linter.unusedVariables false
set_option linter.unusedSimpArgs false
set_option maxRecDepth 10000
namespace Go.Am.Ring
open Go.Am.G
def drw (bs : List Nat) : Nat → Nat → List Nat → List Nat → List Nat
  | 0,_,_,out => out
  | d + 1,i,left,out => drw bs d (i + 1) (left.eraseIdx (bs.getD i 0 % left.length)) (out ++ [left.getD (bs.getD i 0 % left.length) 0])
abbrev drawn (n : Nat) (bs : List Nat) : List Nat := drw bs n 0 (List.range n) []
end Go.Am.Ring
set_option linter.unusedVariables false
set_option linter.unusedSimpArgs false
set_option maxRecDepth 10000
namespace Go.Am.Ring
open Go.Am.G
theorem tz_gen (TL : List LV) (hTL : evC (.ptr 1 0) = .elt TL 0) {X a b c d : LV} {j : Nat} {k' : IntKind} {n : Int} (h0 : binL .eql X (.int .u64 0) = some (.bool false)) (ha : unL UnOp.neg X = some a) (hb : binL BinOp.and X a = some b)
    (hc : binL BinOp.mul b (.int .u64 285870213051353865) = some c) (hd : binL BinOp.shr c (LV.int IntKind.u64 58) = some d) (hj : natL d = some j) (hlt' : j < 64) (ht : TL[j]? = some (.int k' n)) : retL math_bits_TrailingZeros64.results (exF LP math_bits_TrailingZeros64.body (LEnv.ofFrom 0 [X]) []) = some (.int .i64 (IntKind.i64.wrap n),[]) := by
  simp only [math_bits_TrailingZeros64,math_bits_TrailingZeros64.B,exF_seq,exF_region,exF_cond,exF_ret,exF_skip,runL,wantL,stepL,evL,evC_int,LEnv.at,putL,loadFine,loadL,cellsAt,Trk.putNew,Trk.up,Trk.touch,Trk.gives,Trk.calm,opdsOf,Trk.fresh,LEnv.keep,LEnv.ofFrom,List.map_cons,List.map_nil,nbeq,nble,nblt,List.any_cons,List.any_nil,Bool.or_false,Bool.or_true,Bool.and_true,Bool.false_and,Bool.not_true,Bool.not_false,Nat.reduceEqDiff,decide_true,decide_false,cond_true,cond_false,List.filter_nil,Nat.reduceAdd,Nat.reduceLeDiff,reduceCtorEq,List.length_nil,Nat.mul_one,eq_self,retL,resultsL,resAllL,resOfL,hTL,h0,ha,hb,hc,hd,hj,hlt',Nat.mul_one,Nat.zero_add,ht]
theorem tz_run {x : Nat} (h0 : ¬ (x : Int) = 0) {v : LV} (h : chTZ x = some v) (hv : v.pure = true) (m : LMem) : clF LP n_math_bits_TrailingZeros [.int .u64 (x : Int)] m = some (.P,v,m) := by
  obtain ⟨a,ha,h⟩ := bind_some' h
  obtain ⟨b,hb,h⟩ := bind_some' h
  obtain ⟨c,hc,h⟩ := bind_some' h
  obtain ⟨d,hd,h⟩ := bind_some' h
  obtain ⟨j,hj,h⟩ := bind_some' h
  cases hlt : Nat.blt j 64
  · rw [hlt] at h; cases h
  rw [hlt,cond_true] at h
  obtain ⟨t,ht,h⟩ := bind_some' h
  obtain ⟨k',n,rfl,rfl⟩ := cnvL_some h
  have hlt' : j < 64 := by simpa [nblt] using hlt
  have h64 : ∀ m,clF LP n_math_bits_TrailingZeros64 [.int .u64 (x : Int)] m = some (.P,.int .i64 (IntKind.i64.wrap n),m) := fun m =>
    call_P lp_math_bits_TrailingZeros64 rfl rfl (m1 := []) (tz_gen tabLV glo1' (by rw [bin_eql,decide_eq_false h0]) ha hb hc hd hj hlt' ht) rfl m
  refine call_P lp_math_bits_TrailingZeros rfl rfl (m1 := []) ?_ rfl m
  simp only [math_bits_TrailingZeros,math_bits_TrailingZeros.B,exF_seq,exF_region,exF_cond,exF_ret,exF_skip,runL,wantL,stepL,evL,evC_int,evC_bool,evC_func,LEnv.at,putL,loadFine,LEnv.keep,LEnv.ofFrom,List.map_cons,List.map_nil,nbeq,ofAVs,Nat.reduceEqDiff,decide_true,decide_false,cond_true,cond_false,reduceCtorEq,eq_self,retL,resultsL,resAllL,resOfL,List.append_nil,List.nil_append,h64]
theorem oc_run {x : Nat} {v : LV} (h : chOC x = some v) (hv : v.pure = true) (m : LMem) : clF LP n_math_bits_OnesCount [.int .u64 (x : Int)] m = some (.P,v,m) := by
  obtain ⟨a,ha,h⟩ := bind_some' h
  obtain ⟨b,hb,h⟩ := bind_some' h
  obtain ⟨c,hc,h⟩ := bind_some' h
  obtain ⟨x1,h1,h⟩ := bind_some' h
  obtain ⟨a1,ha1,h⟩ := bind_some' h
  obtain ⟨b1,hb1,h⟩ := bind_some' h
  obtain ⟨c1,hc1,h⟩ := bind_some' h
  obtain ⟨x2,h2,h⟩ := bind_some' h
  obtain ⟨a2,ha2,h⟩ := bind_some' h
  obtain ⟨b2,hb2,h⟩ := bind_some' h
  obtain ⟨x3,h3,h⟩ := bind_some' h
  obtain ⟨a3,ha3,h⟩ := bind_some' h
  obtain ⟨x4,h4,h⟩ := bind_some' h
  obtain ⟨a4,ha4,h⟩ := bind_some' h
  obtain ⟨x5,h5,h⟩ := bind_some' h
  obtain ⟨a5,ha5,h⟩ := bind_some' h
  obtain ⟨x6,h6,h⟩ := bind_some' h
  obtain ⟨y,hy,h⟩ := bind_some' h
  obtain ⟨k',n,rfl,rfl⟩ := cnvL_some hy
  have h64 : ∀ m,clF LP n_math_bits_OnesCount64 [.int .u64 (x : Int)] m = some (.P,v,m) := fun m => by
    refine call_P lp_math_bits_OnesCount64 rfl rfl (m1 := []) ?_ hv m
    simp only [math_bits_OnesCount64,math_bits_OnesCount64.B,exF_seq,exF_region,exF_ret,runL,wantL,stepL,evL,evC_int,LEnv.at,putL,loadFine,LEnv.keep,LEnv.ofFrom,List.map_cons,List.map_nil,nbeq,Nat.reduceEqDiff,decide_true,decide_false,cond_true,cond_false,reduceCtorEq,eq_self,retL,resultsL,resAllL,resOfL,ha,hb,hc,h1,ha1,hb1,hc1,h2,ha2,hb2,h3,ha3,h4,ha4,h5,ha5,h6,h]
  refine call_P lp_math_bits_OnesCount rfl rfl (m1 := []) ?_ hv m
  simp only [math_bits_OnesCount,math_bits_OnesCount.B,exF_seq,exF_region,exF_cond,exF_ret,exF_skip,runL,wantL,stepL,evL,evC_int,evC_bool,evC_func,LEnv.at,putL,loadFine,LEnv.keep,LEnv.ofFrom,List.map_cons,List.map_nil,nbeq,ofAVs,Nat.reduceEqDiff,decide_true,decide_false,cond_true,cond_false,reduceCtorEq,eq_self,retL,resultsL,resAllL,resOfL,List.append_nil,List.nil_append,h64]
theorem tz_c {x : Nat} (hx : x < 4096) (h0 : x ≠ 0) : (∀ m,clF LP n_math_bits_TrailingZeros [.int .u64 (x : Int)] m = some (.P,.int .i64 ((tzP 12 x : Nat) : Int),m)) ∧ tzP 12 x < 12 ∧ x &&& (x - 1) = x - 2 ^ tzP 12 x ∧ x % 2 ^ tzP 12 x = 0 ∧ x / 2 ^ tzP 12 x % 2 = 1 := by
  have h := four tzOk_0 tzOk_1 tzOk_2 tzOk_3 hx
  simp only [tzOk,Bool.or_eq_true,Bool.and_eq_true,nbeq,nblt,decide_eq_true_eq] at h
  rcases h with h | ⟨h1,h2,h3,h4,h5⟩
  · exact absurd h h0
  · exact ⟨fun m => tz_run (by omega) (isN_some h1) rfl m,h2,h3,h4,h5⟩
theorem pc_c {x : Nat} (hx : x < 4096) (m : LMem) : clF LP n_math_bits_OnesCount [.int .u64 (x : Int)] m = some (.P,.int .i64 (((numL x).length : Nat) : Int),m) :=
  oc_run (isN_some (four pcOk_0 pcOk_1 pcOk_2 pcOk_3 hx)) rfl m
theorem num_step {x : Nat} (hx : x < 4096) (h0 : x ≠ 0) : numL x = tzP 12 x :: numL (x &&& (x - 1)) := by
  obtain ⟨_,h3,h4,h5,h6⟩ := tz_c hx h0
  rw [h4]
  generalize tzP 12 x = t at *
  have hd := Nat.div_add_mod x (2 ^ t)
  rw [h5,Nat.add_zero] at hd
  have hm2 := Nat.div_add_mod (x / 2 ^ t) 2
  rw [h6] at hm2
  have hle : 2 ^ t ≤ x := by
    rw [← hd]
    exact Nat.le_mul_of_pos_right _ (by omega)
  have hb : ∀ i,x.testBit i = ((x - 2 ^ t).testBit i || decide (t = i)) ∧ (i ≤ t → (x - 2 ^ t).testBit i = false) := by
    have e1 : x - 2 ^ t = 2 ^ (t + 1) * (x / 2 ^ t / 2) := by
      rw [Nat.pow_succ,Nat.mul_assoc]
      have : 2 ^ t * (x / 2 ^ t) = 2 ^ t * (2 * (x / 2 ^ t / 2)) + 2 ^ t := by rw [← Nat.mul_add_one,hm2]
      omega
    intro i
    have hlow : i ≤ t → (x - 2 ^ t).testBit i = false := fun hi => by
      rw [e1,Nat.testBit_two_pow_mul]; simp; omega
    refine ⟨?_,hlow⟩
    have e2 : x = 2 ^ (t + 1) * (x / 2 ^ t / 2) ||| 2 ^ t := by
      rw [← Nat.two_pow_add_eq_or_of_lt (Nat.pow_lt_pow_right (by omega) (by omega)),← e1]; omega
    conv => lhs; rw [e2]
    rw [Nat.testBit_or,Nat.testBit_two_pow,e1]
  have hr : List.range 12 = List.range t ++ t :: List.range' (t + 1) (12 - (t + 1)) := by
    have := List.range'_append_1 (s := 0) (m := t) (n := 12 - t)
    rw [Nat.zero_add,show t + (12 - t) = 12 by omega] at this
    rw [List.range_eq_range',← this,List.range_eq_range',show 12 - t = (12 - (t + 1)) + 1 by omega,List.range'_succ]
  unfold numL
  rw [hr,List.filter_append,List.filter_append,List.filter_cons,List.filter_cons]
  have f1 : (List.range t).filter (fun i => x.testBit i) = [] := List.filter_eq_nil_iff.2 fun i hi => by
    have := List.mem_range.1 hi
    rw [(hb i).1,(hb i).2 (by omega)]
    simp; omega
  have f2 : (List.range t).filter (fun i => (x - 2 ^ t).testBit i) = [] := List.filter_eq_nil_iff.2 fun i hi => by
    have := List.mem_range.1 hi
    rw [(hb i).2 (by omega)]; simp
  have f3 : x.testBit t = true := by rw [(hb t).1]; simp
  have f4 : (x - 2 ^ t).testBit t = false := (hb t).2 (Nat.le_refl _)
  rw [f1,f2,if_pos f3,if_neg (by rw [f4]; simp),List.nil_append,List.nil_append]
  congr 1
  refine List.filter_congr fun i hi => ?_
  have := (List.mem_range'_1.1 hi).1
  rw [(hb i).1]
  have : ¬ t = i := by omega
  simp [this]
theorem num_loop (d : Nat) : ∀ (S : Nat) (out : List Nat) (M : LMem) (v : LV),(numL S).length = d → S < 4096 → out.length + d ≤ 1000 → Lst M v 1 out.length (ints (ci out)) →
    ∃ v' M',exF LP law04_numbers.L0 [(0,.int .u64 (S : Int)),(3,v)] M = some (.exit 0,[(3,v')],M') ∧ Lst M' v' 1 (out ++ numL S).length (ints (ci (out ++ numL S))) := by
  induction d with
  | zero =>
    intro S out M v hd hS ho hL
    have h0 : S = 0 := by
      rcases Nat.eq_zero_or_pos S with h | h
      · exact h
      · rw [num_step hS (by omega)] at hd; simp at hd
    subst h0
    refine ⟨v,M,?_,by rw [numL_zero,List.append_nil]; exact hL⟩
    rw [law04_numbers.L0_eq]
    simp only [law04_numbers.B0,exF_seq,exF_region,exF_cond,exF_exit,runL,wantL,stepL,evL,evC,LEnv.at,putL,loadFine,LEnv.keep,List.map_cons,List.map_nil,nbeq,bin_neq,Nat.reduceEqDiff,decide_true,decide_false,cond_true,cond_false,reduceCtorEq,eq_self,not_true_eq_false,ne_eq,Int.natCast_zero]
  | succ d ih =>
    intro S out M v hd hS ho hL
    have h0 : S ≠ 0 := fun e => by subst e; rw [numL_zero] at hd; simp at hd
    have h0' : ¬ (S : Int) = 0 := by omega
    obtain ⟨htz,_⟩ := tz_c hS h0
    have hst := num_step hS h0
    rw [hst,List.length_cons] at hd
    have hle : S &&& (S - 1) ≤ S := Nat.and_le_left
    have hpred := bits_pred (a := S) (by omega) (by omega)
    have hand := bits_and (a := S) (b := S - 1) (by omega) (by omega)
    obtain ⟨v2,m2,hap,hL2,_,_,_⟩ := hL.append (x := .lst false true 1 1 [.int .i64 ((tzP 12 S : Nat) : Int)]) (k := 1) (news := [.int .i64 ((tzP 12 S : Nat) : Int)]) (bytes := 8) (by simp [contents,nbeq]) rfl (by omega) (by omega) rfl
    have hL2 : Lst m2 v2 1 (out ++ [tzP 12 S]).length (ints (ci (out ++ [tzP 12 S]))) := by
      have e : ints (ci (out ++ [tzP 12 S])) = ints (ci out) ++ [.int .i64 ((tzP 12 S : Nat) : Int)] := by simp
      rw [e]; simpa using hL2
    obtain ⟨v',M',hex,hL'⟩ := ih (S &&& (S - 1)) (out ++ [tzP 12 S]) m2 v2 (by omega) (by omega) (by simp; omega) hL2
    refine ⟨v',M',?_,by rw [hst,List.append_cons]; exact hL'⟩
    rw [law04_numbers.L0_eq]
    generalize (S &&& (S - 1) : Nat) = S2 at *
    generalize tzP 12 S = t at *
    simp only [law04_numbers.B0,exF_seq,exF_region,exF_block,exF_cond,exF_skip,runL,wantL,stepL,evL,evC,LEnv.at,putL,loadFine,LEnv.keep,List.map_cons,List.map_nil,nbeq,nble,ofAV,ofAVs,bin_neq,Bool.or_false,Bool.and_true,Nat.reduceEqDiff,decide_true,decide_false,cond_true,cond_false,Nat.reduceAdd,reduceCtorEq,List.length_nil,List.length_cons,Nat.mul_one,eq_self,List.append_nil,List.nil_append,not_false_eq_true,ne_eq,views_pures,LV.pures,LV.pure,freeze,Nat.reduceDiv,LV.cells,spliceL,List.take_zero,List.take_succ_cons,List.drop_succ_cons,List.drop_nil,List.take_nil,Nat.le_refl,fillL,h0',htz,hap,hpred,hand,hex]
theorem num_le (S : Nat) : (numL S).length ≤ 12 := by
  have := List.length_filter_le (fun i => S.testBit i) (List.range 12)
  rw [List.length_range] at this
  exact this
theorem numbers_c {S : Nat} (hS : S < 4096) : ∃ a b z,(numL S = [] ∨ (a = false ∧ z = 1)) ∧ ∀ m,clF LP n_law04_numbers [.int .u64 (S : Int)] m = some (.P,IL a b z (ci (numL S)),m) := by
  have hle := num_le S
  obtain ⟨v',M',hex,hL⟩ := num_loop (numL S).length S [] [] (.lst true true 0 0 []) rfl hS (by simp; omega) (Lst.nil [] 1)
  rw [List.nil_append] at hL
  obtain ⟨a,b,z,ids,hz,hn,_,hvw⟩ := hL.view (pures_int _ _) (by omega)
  refine ⟨a,b,z,?_,fun m => ?_⟩
  · by_cases c : numL S = []
    · exact .inl c
    · have hl : (numL S).length ≠ 0 := fun e => c (List.length_eq_zero_iff.1 e)
      refine .inr ⟨?_,hz.resolve_left hl⟩
      cases a
      · rfl
      · exact absurd (hn rfl) hl
  · have hcl := ci_len (numL S)
    simp only [IL,hcl]
    refine call_Pv lp_law04_numbers rfl rfl (m1 := M') (v := v') (ids := ids) ?_ (hvw 97) m
    simp only [law04_numbers,law04_numbers.B,exF_seq,exF_region,exF_block,exF_ret,runL,wantL,stepL,evL,evC,LEnv.at,putL,loadFine,LEnv.keep,LEnv.ofFrom,List.map_cons,List.map_nil,nbeq,Nat.reduceEqDiff,decide_true,decide_false,cond_true,cond_false,reduceCtorEq,eq_self,retL,resultsL,resAllL,resOfL,hex]
theorem idx_plc (x : Int) : ∀ (l : List Int) (k : Nat),idxI x l k = plcG x k l
  | [],k => rfl
  | a :: r,k => by
    rw [idxI,plcG,idx_plc x r (k + 1)]
    by_cases c : x = a
    · rw [if_pos c,if_pos c.symm]
    · rw [if_neg c,if_neg (fun e => c e.symm)]
theorem idx_pos (o : List Nat) (x : Nat) : idxI (x : Int) (ci o) 0 = pos o x := idx_plc _ _ 0
def badI (P : List (Nat × Nat)) (o : List Nat) (i : Nat) : Bool := decide (pos o (en P i) < pos o (st P i))
def mskK (P : List (Nat × Nat)) (o : List Nat) (k : Nat) : Nat := (List.range k).foldl (fun a i => if badI P o i = true then a ||| 2 ^ i else a) 0
theorem mskK_succ (P : List (Nat × Nat)) (o : List Nat) (k : Nat) : mskK P o (k + 1) = if badI P o k = true then mskK P o k ||| 2 ^ k else mskK P o k := by simp [mskK,List.range_succ]
abbrev msk (P : List (Nat × Nat)) (o : List Nat) : Nat := mskK P o P.length
theorem mskK_bit (P : List (Nat × Nat)) (o : List Nat) (i : Nat) : ∀ k,(mskK P o k).testBit i = (decide (i < k) && badI P o i)
  | 0 => by simp [mskK]
  | k + 1 => by
    rw [mskK_succ]
    have ih := mskK_bit P o i k
    by_cases e : i = k
    · subst e
      split
      · rename_i h
        rw [Nat.testBit_or,ih,h]; simp
      · rename_i h
        rw [ih]; simp [h]
    · have h1 : decide (i < k + 1) = decide (i < k) := by rw [decide_eq_decide]; omega
      rw [h1,← ih]
      split
      · rw [Nat.testBit_or,Nat.testBit_two_pow]
        have : ¬ k = i := fun h => e h.symm
        simp [this]
      · rfl
theorem mskK_lt (P : List (Nat × Nat)) (o : List Nat) : ∀ k,k ≤ 12 → mskK P o k < 4096
  | 0,_ => by simp [mskK]
  | k + 1,h => by
    rw [mskK_succ]
    split
    · exact Nat.or_lt_two_pow (n := 12) (mskK_lt P o k (by omega)) (Nat.pow_lt_pow_right (by omega) (by omega))
    · exact mskK_lt P o k (by omega)
theorem against_loop' {n : Nat} {P : List (Nat × Nat)} (G : Good n P) (nl ex : Bool) (sz : Nat) (nl' ex' : Bool) (sz' : Nat) (o : List Nat) (ho : o.length < 1000) (j : Nat) : ∀ (k : Nat) (M : LMem),k + j = P.length →
    ∃ M',exF LP law04_against.L0 [(1,IL nl' ex' sz' (ci o)),(5,.int .u64 ((mskK P o k : Nat) : Int)),(8,FN nl ex sz P),(9,.int .i64 (P.length : Int)),(10,.int .i64 (k : Int))] M = some (.exit 0,[(5,.int .u64 ((msk P o : Nat) : Int))],M') := by
  have h12 := G.le12
  induction j with
  | zero =>
    intro k M hk
    obtain rfl : k = P.length := by omega
    refine ⟨M,?_⟩
    rw [law04_against.L0_eq]
    simp only [law04_against.B0,exF_seq,exF_region,exF_cond,exF_exit,runL,wantL,stepL,evL,LEnv.at,putL,loadFine,LEnv.keep,List.map_cons,List.map_nil,nbeq,bin_lss,Nat.reduceEqDiff,decide_true,decide_false,cond_true,cond_false,eq_self,Int.lt_irrefl]
  | succ j ih =>
    intro k M hk
    have h2 : k < P.length := by omega
    have hkk : (k : Int) < (P.length : Int) := by omega
    have hw := wrap_succ (show k + 1 < 9223372036854775808 by omega)
    have seg := pcSE P k h2
    have ok := pcN_ok P k h2
    have i1 := fun m => index_c nl' ex' sz' (ci o) ((en P k : Nat) : Int) (by rw [ci_len]; omega) m
    have i2 := fun m => index_c nl' ex' sz' (ci o) ((st P k : Nat) : Int) (by rw [ci_len]; omega) m
    simp only [idx_pos] at i1 i2
    have hshl := bits_shl (show k < 64 by omega)
    have hlt := mskK_lt P o k (by omega)
    have hpw : 2 ^ k < 2 ^ 12 := Nat.pow_lt_pow_right (by omega) (by omega)
    have hor := bits_or (a := mskK P o k) (b := 2 ^ k) (by omega) (by omega)
    obtain ⟨M',hex⟩ := ih (k + 1) (M ++ [⟨[.int .i64 ((st P k : Nat) : Int),.int .i64 ((en P k : Nat) : Int)],true⟩]) (by omega)
    refine ⟨M',?_⟩
    rw [mskK_succ] at hex
    rw [law04_against.L0_eq]
    have hbad : badI P o k = decide (pos o (en P k) < pos o (st P k)) := rfl
    generalize IL nl' ex' sz' (ci o) = ov at *
    by_cases c : pos o (en P k) < pos o (st P k)
    · rw [if_pos (by rw [hbad]; exact decide_eq_true c)] at hex
      simp only [FN_eq] at hex ⊢
      simp only [law04_against.B0,law04_against.B0.R0,exF_seq,exF_region,exF_block,exF_cond,exF_skip,runL,wantL,stepL,evL,evC,LEnv.at,putL,loadFine,loadL,cellsAt,Trk.putNew,Trk.up,Trk.touch,Trk.gives,Trk.calm,Trk.hit,opdsOf,Trk.fresh,LEnv.keep,List.map_cons,List.map_nil,nbeq,nble,nblt,ofAV,ofAVs,bin_add,bin_lss,natL_nat,natL_zero,natL_one,List.any_cons,List.any_nil,Bool.or_false,Bool.or_true,Bool.and_true,Bool.false_and,Bool.not_true,Bool.not_false,Nat.reduceEqDiff,decide_true,decide_false,cond_true,cond_false,List.filter_nil,List.filter_cons,Nat.reduceAdd,Nat.reduceLeDiff,reduceCtorEq,List.length_nil,List.length_cons,Nat.mul_one,if_true,eq_self,List.append_nil,List.nil_append,LV.cells,allocL,List.getElem?_cons_zero,List.getElem?_cons_succ,storeL,spliceL,List.take_zero,List.take_succ_cons,List.drop_zero,List.drop_succ_cons,List.drop_nil,List.take_nil,Nat.le_refl,LV.scalar,List.all_cons,List.all_nil,Nat.lt_add_one,Nat.reduceLT,List.length_append,Nat.add_zero,hkk,h2,seg,ok,set_last,get_last,show ¬ M.length + 1 ≤ M.length by omega,i1,i2,c,hshl,hor,hw,hex]
    · rw [if_neg (by rw [hbad,decide_eq_false c]; simp)] at hex
      simp only [FN_eq] at hex ⊢
      simp only [law04_against.B0,law04_against.B0.R0,exF_seq,exF_region,exF_block,exF_cond,exF_skip,runL,wantL,stepL,evL,evC,LEnv.at,putL,loadFine,loadL,cellsAt,Trk.putNew,Trk.up,Trk.touch,Trk.gives,Trk.calm,Trk.hit,opdsOf,Trk.fresh,LEnv.keep,List.map_cons,List.map_nil,nbeq,nble,nblt,ofAV,ofAVs,bin_add,bin_lss,natL_nat,natL_zero,natL_one,List.any_cons,List.any_nil,Bool.or_false,Bool.or_true,Bool.and_true,Bool.false_and,Bool.not_true,Bool.not_false,Nat.reduceEqDiff,decide_true,decide_false,cond_true,cond_false,List.filter_nil,List.filter_cons,Nat.reduceAdd,Nat.reduceLeDiff,reduceCtorEq,List.length_nil,List.length_cons,Nat.mul_one,if_true,eq_self,List.append_nil,List.nil_append,LV.cells,allocL,List.getElem?_cons_zero,List.getElem?_cons_succ,storeL,spliceL,List.take_zero,List.take_succ_cons,List.drop_zero,List.drop_succ_cons,List.drop_nil,List.take_nil,Nat.le_refl,LV.scalar,List.all_cons,List.all_nil,Nat.lt_add_one,Nat.reduceLT,List.length_append,Nat.add_zero,hkk,h2,seg,ok,set_last,get_last,show ¬ M.length + 1 ≤ M.length by omega,i1,i2,c,hw,hex]
theorem mask_c {n : Nat} {P : List (Nat × Nat)} (G : Good n P) (nl ex : Bool) (sz : Nat) (nl' ex' : Bool) (sz' : Nat) (o : List Nat) (ho : o.length < 1000) (m : LMem) : clF LP n_law04_against [FN nl ex sz P,IL nl' ex' sz' (ci o)] m = some (.P,.int .u64 ((msk P o : Nat) : Int),m) := by
  obtain ⟨M',h⟩ := against_loop' G nl ex sz nl' ex' sz' o ho P.length 0 [] (by omega)
  have h0 : ((mskK P o 0 : Nat) : Int) = 0 := rfl
  rw [h0] at h
  simp only [Int.natCast_zero] at h
  refine call_P lp_law04_against rfl (by simp [LV.pures,LV.pure]) (m1 := M') ?_ rfl m
  generalize IL nl' ex' sz' (ci o) = ov at *
  simp only [FN_eq] at h ⊢
  simp only [law04_against,law04_against.B,exF_seq,exF_region,exF_block,exF_ret,runL,wantL,stepL,evL,evC,LEnv.at,putL,loadFine,LEnv.keep,LEnv.ofFrom,List.map_cons,List.map_nil,nbeq,lenL,Nat.reduceEqDiff,decide_true,decide_false,cond_true,cond_false,Nat.reduceAdd,reduceCtorEq,eq_self,retL,resultsL,resAllL,resOfL,h]
theorem agn_bad {n : Nat} {P : List (Nat × Nat)} (G : Good n P) (o : List Nat) : agn (P.map castP) (ci o) = ci (numL (msk P o)) := by
  have h12 := G.le12
  have e1 : numL (msk P o) = (List.range P.length).filter (badI P o) := by
    unfold numL
    have hr : List.range 12 = List.range P.length ++ List.range' P.length (12 - P.length) := by
      have := List.range'_append_1 (s := 0) (m := P.length) (n := 12 - P.length)
      rw [Nat.zero_add,show P.length + (12 - P.length) = 12 by omega] at this
      rw [List.range_eq_range',← this,List.range_eq_range']
    rw [hr,List.filter_append]
    have f2 : (List.range' P.length (12 - P.length)).filter (fun i => (msk P o).testBit i) = [] := List.filter_eq_nil_iff.2 fun i hi => by
      have := (List.mem_range'_1.1 hi).1
      rw [mskK_bit]; simp; omega
    rw [f2,List.append_nil]
    refine List.filter_congr fun i hi => ?_
    have := List.mem_range.1 hi
    rw [mskK_bit]; simp [this]
  rw [e1]
  have key : ∀ (j k : Nat),k + j = P.length → agnF (ci o) k ((P.drop k).map castP) = ci ((List.range' k j).filter (badI P o)) := by
    intro j
    induction j with
    | zero => intro k hk; rw [List.drop_eq_nil_of_le (by omega)]; rfl
    | succ j ih =>
      intro k hk
      have h2 : k < P.length := by omega
      rw [List.drop_eq_getElem_cons h2,List.map_cons,agnF,ih (k + 1) (by omega),List.range'_succ,List.filter_cons]
      have hs : badI P o k = decide (plc (ci o) (castP P[k]).2 < plc (ci o) (castP P[k]).1) := by
        unfold badI pos st en
        rw [getD_at P k _ h2]; rfl
      by_cases c : plc (ci o) (castP P[k]).2 < plc (ci o) (castP P[k]).1
      · rw [if_pos c,if_pos (by rw [hs]; exact decide_eq_true c)]; rfl
      · rw [if_neg c,if_neg (by rw [hs,decide_eq_false c]; simp)]
  have := key P.length 0 (by omega)
  rw [List.drop_zero,← List.range_eq_range'] at this
  exact this
theorem msk_len {n : Nat} {P : List (Nat × Nat)} (G : Good n P) (o : List Nat) : (numL (msk P o)).length = contr P o := by
  have h1 := agn_bad G o
  have h2 := agnF_length o P 0
  have h3 : (agn (P.map castP) (ci o)).length = contr P o := h2
  rw [h1,ci_len] at h3
  exact h3
end Go.Am.Ring
