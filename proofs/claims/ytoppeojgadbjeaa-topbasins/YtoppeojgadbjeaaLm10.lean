/-
  THE LIST MACHINE, 10: rules by which its runs are told for inputs that are not closed.
-/
import Derived.Test.YtoppeojgadbjeaaLm9
import Derived.IntWalk
set_option linter.unusedVariables false
set_option linter.unusedSimpArgs false
namespace Go.Am
variable [Glo]
omit [Glo] in
theorem beqT (b : Bool) : (b == true) = b := by cases b <;> rfl
omit [Glo] in
theorem beqF (b : Bool) : (b == false) = !b := by cases b <;> rfl
omit [Glo] in
theorem nbeq (a b : Nat) : Nat.beq a b = decide (a = b) := by
  cases h : Nat.beq a b
  · symm; rw [decide_eq_false_iff_not]; rintro rfl; simp at h
  · symm; rw [decide_eq_true_eq]; simpa using h
omit [Glo] in
theorem nble (a b : Nat) : Nat.ble a b = decide (a ≤ b) := by
  cases h : Nat.ble a b
  · symm; rw [decide_eq_false_iff_not]; intro c; rw [show Nat.ble a b = true by simpa using c] at h; cases h
  · symm; rw [decide_eq_true_eq]; simpa using h
omit [Glo] in
theorem nblt (a b : Nat) : Nat.blt a b = decide (a < b) := by unfold Nat.blt; rw [nble]; rfl
abbrev IL (nl ex : Bool) (sz : Nat) (l : List Int) : LV := .lst nl ex sz l.length (l.map (LV.int .i64))
abbrev RL (l : List Int) : LV := IL (decide (l = [])) (decide (l = [])) (cond (decide (l = [])) 0 1) l
section
variable (k : IntKind) (a b : Int)
omit [Glo] in
theorem kind_beq (k : IntKind) : (k == k) = true := by cases k <;> rfl
omit [Glo] in
theorem bin_add : binL .add (.int k a) (.int k b) = some (.int k (k.wrap (a + b))) := by simp [binL,aBin,ofAV]
omit [Glo] in
theorem bin_sub : binL .sub (.int k a) (.int k b) = some (.int k (k.wrap (a - b))) := by simp [binL,aBin,ofAV]
omit [Glo] in
theorem bin_mul : binL .mul (.int k a) (.int k b) = some (.int k (k.wrap (a * b))) := by simp [binL,aBin,ofAV]
omit [Glo] in
theorem bin_eql : binL .eql (.int k a) (.int k b) = some (.bool (decide (a = b))) := by
  simp [binL,aBin,ofAV]; rfl
omit [Glo] in
theorem bin_neq : binL .neq (.int k a) (.int k b) = some (.bool (decide (a ≠ b))) := by
  simp [binL,aBin,ofAV]; rw [Bool.eq_iff_iff]; simp
omit [Glo] in
theorem bin_lss : binL .lss (.int k a) (.int k b) = some (.bool (decide (a < b))) := by simp [binL,aBin,ofAV]
omit [Glo] in
theorem bin_leq : binL .leq (.int k a) (.int k b) = some (.bool (decide (a ≤ b))) := by simp [binL,aBin,ofAV]
omit [Glo] in
theorem bin_gtr : binL .gtr (.int k a) (.int k b) = some (.bool (decide (b < a))) := by simp [binL,aBin,ofAV]
omit [Glo] in
theorem bin_geq : binL .geq (.int k a) (.int k b) = some (.bool (decide (b ≤ a))) := by simp [binL,aBin,ofAV]
omit [Glo] in
theorem bin_rem (h : b ≠ 0) : binL .rem (.int k a) (.int k b) = some (.int k (a.tmod b)) := by simp [binL,aBin,ofAV,beq_false_of_ne h]
omit [Glo] in
theorem bin_and : binL .and (.int k a) (.int k b) = some (.int k (k.wrap (BitVec.ofInt k.bits a &&& BitVec.ofInt k.bits b).toNat)) := by simp [binL,aBin,ofAV]
omit [Glo] in
theorem bin_or : binL .or (.int k a) (.int k b) = some (.int k (k.wrap (BitVec.ofInt k.bits a ||| BitVec.ofInt k.bits b).toNat)) := by simp [binL,aBin,ofAV]
omit [Glo] in
theorem bin_shl (k' : IntKind) (h : ¬ b < 0) : binL .shl (.int k a) (.int k' b) = some (.int k (k.wrap (a * 2 ^ (Nat.min b.toNat k.bits)))) := by simp [binL,aBin,ofAV,h]
omit [Glo] in
theorem bin_shr (k' : IntKind) (h : ¬ b < 0) : binL .shr (.int k a) (.int k' b) = some (.int k (a.fdiv (2 ^ (Nat.min b.toNat k.bits)))) := by simp [binL,aBin,ofAV,h]
end
omit [Glo] in
theorem natL_nat (k : IntKind) (n : Nat) : natL (.int k (n : Int)) = some n := by simp [natL]
omit [Glo] in
theorem natL_zero (k : IntKind) : natL (.int k 0) = some 0 := rfl
omit [Glo] in
theorem natL_one (k : IntKind) : natL (.int k 1) = some 1 := rfl
omit [Glo] in
theorem natL_two (k : IntKind) : natL (.int k 2) = some 2 := rfl
omit [Glo] in
theorem wrap_nat {n : Nat} (h : n < 9223372036854775808) : IntKind.i64.wrap (n : Int) = n := IntWalk.i64_in _ (by omega)
omit [Glo] in
theorem wrap_succ {n : Nat} (h : n + 1 < 9223372036854775808) : IntKind.i64.wrap ((n : Int) + 1) = ((n + 1 : Nat) : Int) := (IntWalk.i64_in _ (by omega)).trans (by simp)
omit [Glo] in
theorem wrap_in {n : Int} (h : -9223372036854775808 ≤ n ∧ n ≤ 9223372036854775807) : IntKind.i64.wrap n = n := IntWalk.i64_in n h
omit [Glo] in
theorem pures_int (k : IntKind) (l : List Int) : LV.pures (l.map (LV.int k)) = true := by
  induction l with
  | nil => rfl
  | cons a r ih => simp [LV.pures,LV.pure,ih]
omit [Glo] in
theorem shifts_int (k : IntKind) (n : Nat) (l : List Int) : LV.shifts n (l.map (LV.int k)) = l.map (LV.int k) := by
  induction l with
  | nil => rfl
  | cons a r ih => simp [LV.shifts,LV.shift,ih]
omit [Glo] in
theorem solids_int (k : IntKind) (l : List Int) : LV.solids (l.map (LV.int k)) = true := by
  induction l with
  | nil => rfl
  | cons a r ih => simp [LV.solids,LV.solid,ih]
omit [Glo] in
theorem plains_int (k : IntKind) (l : List Int) : LV.plains (l.map (LV.int k)) = true := by
  induction l with
  | nil => rfl
  | cons a r ih => simp [LV.plains,LV.plain,ih]
omit [Glo] in
theorem unders_int (k : IntKind) (n : Nat) (l : List Int) : LV.unders n (l.map (LV.int k)) = true := by
  induction l with
  | nil => rfl
  | cons a r ih => simp [LV.unders,LV.under,ih]
omit [Glo] in
theorem scalars_int (k : IntKind) (l : List Int) : (l.map (LV.int k)).all LV.scalar = true := by
  induction l with
  | nil => rfl
  | cons a r ih => simp [LV.scalar]
omit [Glo] in
theorem viewL_pures (k : Nat) (lm : LMem) (l : List LV) (h : LV.pures l = true) : viewL (k + 1) lm l = some (l,[]) := by
  cases l with
  | nil => rfl
  | cons a r => simp [viewL,h]
omit [Glo] in
theorem views_pures (lm : LMem) (l : List LV) (h : LV.pures l = true) : views lm l = some (l,[]) := viewL_pures 99 lm l h
omit [Glo] in
theorem view_pure (k : Nat) (lm : LMem) (v : LV) (h : v.pure = true) : view (k + 2) lm v = some (v,[]) := by
  cases v <;> simp only [view,LV.pure,Bool.and_eq_true,reduceCtorEq] at h ⊢
  · rw [viewL_pures k lm _ h.1,viewL_pures k lm _ h.2]; rfl
  · rw [viewL_pures k lm _ h]
  · rw [viewL_pures k lm _ h]
theorem call_P {C : LProg} {f : Nat} {lf : LFunc} (hC : C f = some lf) (hm : lf.mode = .P) {args : List LV} (hp : LV.pures args = true) {v : LV} {m1 : LMem} (h : retL lf.results (exF C lf.body (LEnv.ofFrom 0 args) []) = some (v,m1)) (hv : v.pure = true) (m : LMem) :
    clF C f args m = some (.P,v,m) := by
  rw [clF_eq,hC]
  simp only [callMode,hm,views_pures m args hp,h,view_pure 98 m1 v hv,List.isEmpty_nil,Bool.true_or,cond_true]
omit [Glo] in
theorem trim_nil (k : Nat) (vs : List LV) : trim k vs [] = [] := by unfold trim; simp
omit [Glo] in
theorem trim_le (k : Nat) (vs : List LV) (m : LMem) (h : m.length ≤ k) : trim k vs m = m := by
  unfold trim
  rw [List.take_of_length_le h]
  cases (LV.unders k vs && belowM k m) <;> rfl
omit [Glo] in
theorem int_at (k : IntKind) (l : List Int) (i : Nat) (h : i < l.length) : (l.map (LV.int k))[i]? = some (.int k l[i]) := by rw [List.getElem?_map,List.getElem?_eq_getElem h]; rfl
theorem call_Pv {C : LProg} {f : Nat} {lf : LFunc} (hC : C f = some lf) (hm : lf.mode = .P) {args : List LV} (hp : LV.pures args = true) {v v' : LV} {m1 : LMem} {ids : List Nat} (h : retL lf.results (exF C lf.body (LEnv.ofFrom 0 args) []) = some (v,m1)) (hv : view 100 m1 v = some (v',ids)) (m : LMem) :
    clF C f args m = some (.P,v',m) := by
  rw [clF_eq,hC]
  simp only [callMode,hm,views_pures m args hp,h,hv,List.isEmpty_nil,Bool.true_or,cond_true]
def GV (b : Nat) (l : List Int) : LV := if l = [] then .lst true true 0 0 [] else .sl b 0 l.length l.length 1 1 l.length
def GM (l : List Int) : LMem := if l = [] then [] else [⟨l.map (LV.int .i64),true⟩]
omit [Glo] in
theorem GV_nil (b : Nat) : GV b [] = .lst true true 0 0 [] := rfl
omit [Glo] in
theorem GM_nil : GM [] = [] := rfl
omit [Glo] in
theorem room_of {n : Nat} (h : n < 1000000) : (Nat.ble ((n + 1) * 8) roomMost && Nat.ble (n + 1) roomMost) = true := by
  simp only [Bool.and_eq_true,Nat.ble_eq,roomMost]; omega
omit [Glo] in
theorem append_grow (pre : LMem) (l : List Int) (x : Int) (ex : Bool) (h : l.length < 1000000) :
    appendL (pre ++ GM l) 1 8 (GV pre.length l) (.lst false ex 1 1 [.int .i64 x]) = some (GV pre.length (l ++ [x]),pre ++ GM (l ++ [x])) := by
  by_cases hl : l = []
  · subst hl
    simp [appendL,contents,GV,GM,newSl,LV.scalar,roomMost,nbeq,nble]
  · have hpos : 0 < l.length := List.length_pos_iff.2 hl
    have h1 : (pre ++ GM l)[pre.length]? = some ⟨l.map (LV.int .i64),true⟩ := by simp [GM,hl]
    have h2 : contents (pre ++ GM l) 1 (GV pre.length l) = some (l.map (LV.int .i64),l.length) := by
      simp only [GV,if_neg hl,contents,h1]
      simp only [List.drop_zero,Nat.mul_one,List.length_map,Nat.zero_add,nble,nbeq,Nat.le_refl,decide_true,Bool.and_self,cond_true]
      rw [List.take_of_length_le (by simp)]
    have h3 : contents (pre ++ GM l) 1 (.lst false ex 1 1 [.int .i64 x]) = some ([.int .i64 x],1) := rfl
    have h4 : (Nat.ble ((l.length + 1) * 8) roomMost && Nat.ble (l.length + 1) roomMost && [LV.int .i64 x].all LV.scalar) = true := by rw [room_of h]; rfl
    have h5 : Nat.ble (l.length + 1) l.length = false := by rw [nble]; simp
    have h6 : Nat.blt l.length (l.length + 1) = true := by rw [nblt]; simp
    unfold appendL
    simp only [h2,h3,h4]
    simp only [GV,if_neg hl,h1,h5,Nat.mul_one,h6,show Nat.blt 0 l.length = true by rw [nblt,decide_eq_true_eq]; exact hpos]
    simp [GM,hl,nbeq]
theorem call_view {C : LProg} {f : Nat} {lf : LFunc} (hC : C f = some lf) (hm : lf.mode = .P) {args vs : List LV} {ids : List Nat} {m : LMem} (hv : views m args = some (vs,ids)) (hp : LV.pures vs = true) {v : LV} (hc : clF C f vs [] = some (.P,v,[])) (hpl : v.plain = true) : clF C f args m = some (.P,v,m) := by
  rw [clF_eq,hC] at hc ⊢
  simp only [callMode,hm,views_pures [] vs hp,hv] at hc ⊢
  split at hc
  · rename_i v1 m1 hr
    split at hc
    · rename_i v2 ids1 hv2
      simp only [Option.some.injEq,Prod.mk.injEq] at hc
      obtain ⟨_,rfl,_⟩ := hc
      simp only [hpl,Bool.true_or,Bool.or_true,cond_true]
    · cases hc
  · cases hc
def isTrueL (x : Option (Mode × LV × LMem)) : Bool := match x with | some (.P,.bool b,_) => b | _ => false
theorem call_run {C : LProg} {f n : Nat} {lf : LFunc} (hC : C f = some lf) (hm : lf.mode = .P) (h : isTrueL (callL C n f [] []) = true) (m : LMem) : clF C f [] m = some (.P,.bool true,m) := by
  unfold isTrueL at h
  split at h
  · rename_i b m' hr
    subst h
    have h2 : clF C f [] [] = some (.P,.bool true,m') := clF_some.2 ⟨n,hr⟩
    have hm' : m' = [] := by
      rw [clF_eq,hC] at h2
      simp only [callMode,hm,views_pures [] [] rfl] at h2
      split at h2
      · split at h2
        · simp only [Option.some.injEq,Prod.mk.injEq,List.isEmpty_nil,Bool.true_or,cond_true] at h2
          exact h2.2.2.symm
        · cases h2
      · cases h2
    subst hm'
    exact call_view hC hm (views_pures m [] rfl) rfl h2 rfl
  · cases h
def GVc (b sz n : Nat) : LV := if n = 0 then .lst true true 0 0 [] else .sl b 0 n n sz sz (n * sz)
def GMc (n : Nat) (cs : List LV) : LMem := if n = 0 then [] else [⟨cs,true⟩]
abbrev RLc (sz n : Nat) (cs : List LV) : LV := .lst (decide (n = 0)) (decide (n = 0)) (cond (decide (n = 0)) 0 sz) n cs
omit [Glo] in
theorem append_c (pre post : LMem) (sz bytes n : Nat) (cs news : List LV) (ex : Bool) (hcs : cs.length = n * sz) (hnews : news.length = sz) (hsc : news.all LV.scalar = true) (hsz : 0 < sz) (hroom : (n + 1) * bytes ≤ 140737488355328 ∧ n + 1 ≤ 140737488355328) (hp : n ≠ 0 ∨ post = []) :
    appendL (pre ++ GMc n cs ++ post) sz bytes (GVc pre.length sz n) (.lst false ex sz 1 news) = some (GVc pre.length sz (n + 1),pre ++ GMc (n + 1) (cs ++ news) ++ post) := by
  have h3 : contents (pre ++ GMc n cs ++ post) sz (.lst false ex sz 1 news) = some (news,1) := by simp [contents,nbeq]
  have h4 : (Nat.ble ((n + 1) * bytes) roomMost && Nat.ble (n + 1) roomMost && news.all LV.scalar) = true := by
    simp only [roomMost,Bool.and_eq_true,Nat.ble_eq]; exact ⟨hroom,hsc⟩
  by_cases hn : n = 0
  · subst hn
    have hcs0 : cs = [] := by simpa using hcs
    rcases hp with c | rfl
    · exact absurd rfl c
    subst hcs0
    have h2 : contents (pre ++ GMc 0 [] ++ []) sz (GVc pre.length sz 0) = some ([],0) := by simp [contents,GVc,nbeq]
    unfold appendL
    simp only [h2,h3,h4]
    simp [GVc,GMc,newSl,nbeq]
  · have h1 : (pre ++ GMc n cs ++ post)[pre.length]? = some ⟨cs,true⟩ := by simp [GMc,hn]
    have h2 : contents (pre ++ GMc n cs ++ post) sz (GVc pre.length sz n) = some (cs,n) := by
      simp only [GVc,if_neg hn,contents,h1]
      simp only [List.drop_zero,Nat.zero_add,nble,nbeq,Nat.le_refl,hcs,decide_true,Bool.and_self,cond_true]
      rw [List.take_of_length_le (by omega)]
    have h5 : Nat.ble (n + 1) n = false := by rw [nble]; simp
    have h6 : Nat.blt (n * sz) ((n + 1) * sz) = true := by rw [nblt,decide_eq_true_eq]; exact Nat.mul_lt_mul_of_pos_right (by omega) hsz
    have h7 : Nat.beq sz 0 = false := by rw [nbeq,decide_eq_false_iff_not]; omega
    unfold appendL
    simp only [h2,h3,h4]
    simp only [GVc,if_neg hn,h1,h5,h6,h7,show Nat.blt 0 (n * sz) = true by rw [nblt,decide_eq_true_eq]; exact Nat.mul_pos (by omega) hsz]
    simp [GMc,hn,nbeq]
omit [Glo] in
theorem bits_shl {i : Nat} (h : i < 64) : binL .shl (.int .u64 1) (.int .i64 (i : Int)) = some (.int .u64 ((2 ^ i : Nat) : Int)) := by
  rw [bin_shl _ _ _ _ (by omega)]
  have h2 : (2 : Nat) ^ i < 2 ^ 64 := Nat.pow_lt_pow_right (by omega) h
  have e : Nat.min ((i : Int)).toNat IntKind.u64.bits = i := by
    show min i 64 = i; omega
  rw [e,Int.one_mul]
  have e2 : (2 : Int) ^ i = ((2 ^ i : Nat) : Int) := by rw [Int.natCast_pow]; rfl
  rw [e2]
  congr 2
  have h3 := Nat.two_pow_pos i
  have h4 : (2 : Nat) ^ 64 = 18446744073709551616 := rfl
  exact IntWalk.u64_in _ (by omega)
omit [Glo] in
theorem bits_shr {a i : Nat} (h : i < 64) : binL .shr (.int .u64 (a : Int)) (.int .i64 (i : Int)) = some (.int .u64 ((a / 2 ^ i : Nat) : Int)) := by
  rw [bin_shr _ _ _ _ (by omega)]
  have e : Nat.min ((i : Int)).toNat IntKind.u64.bits = i := by
    show min i 64 = i; omega
  rw [e]
  have e2 : (2 : Int) ^ i = ((2 ^ i : Nat) : Int) := by rw [Int.natCast_pow]; rfl
  rw [e2]
  congr 2
  exact (Int.ofNat_fdiv a _).symm
end Go.Am
