/-
  THE LIST MACHINE, 4: its operations are the abstract machine's.
-/
import Derived.Test.YtoppeojgadbjeaaLm3
set_option linter.unusedVariables false
namespace Go.Am
variable [Glo]
section
variable {s : Sit} {lo : Nat} {le : LEnv} {ae : Env}
omit [Glo] in
theorem LR.bool_inv {b : Bool} {a : AV} (h : LR s (.bool b) a) : a = .bool b := by cases h; rfl
omit [Glo] in
theorem LR.int_inv {k : IntKind} {n : Int} {a : AV} (h : LR s (.int k n) a) : a = .int k n := by cases h; rfl
omit [Glo] in
theorem LR.func_inv {f : Nat} {x y : List LV} {a : AV} (h : LR s (.func f x y) a) : ∃ x' y',a = .func f x' y' ∧ LRs s x x' ∧ LRs s y y' := by cases h; exact ⟨_,_,rfl,‹_›,‹_›⟩
omit [Glo] in
theorem LR.agg_inv {x : List LV} {a : AV} (h : LR s (.agg x) a) : ∃ x',a = .agg x' ∧ LRs s x x' := by cases h; exact ⟨_,rfl,‹_›⟩
omit [Glo] in
theorem LR.tup_inv {x : List LV} {a : AV} (h : LR s (.tup x) a) : ∃ x',a = .tup x' ∧ LRs s x x' := by cases h; exact ⟨_,rfl,‹_›⟩
omit [Glo] in
theorem LR.ptr_inv {i o L : Nat} {a : AV} (h : LR s (.ptr i o L) a) : ∃ b,a = .ptr b o ∧ leL s.lm i L ∧ (okL s.lm i L → b = s.ρ i) := by cases h; exact ⟨_,rfl,‹_›,‹_›⟩
omit [Glo] in
theorem LR.sl_inv {i o n cap g sz L : Nat} {a : AV} (h : LR s (.sl i o n cap g sz L) a) : ∃ b,a = .slice b o n cap g ∧ leL s.lm i L ∧ (okL s.lm i L → b = s.ρ i) ∧ (g = 0 ∨ g = sz) := by cases h; exact ⟨_,rfl,‹_›,‹_›,‹_›⟩
omit [Glo] in
theorem LR.elt_inv {cs : List LV} {o : Nat} {a : AV} (h : LR s (.elt cs o) a) : ∃ b p blk,a = .ptr b (p + o) ∧ s.A b ∧ s.am.look b = some blk ∧ p + cs.length ≤ blk.cells.length ∧ LRs s cs ((blk.cells.drop p).take cs.length) ∧ LV.pures cs = true := by
  cases h; exact ⟨_,_,_,rfl,‹_›,‹_›,‹_›,‹_›,‹_›⟩
omit [Glo] in
theorem LR.lst_inv {nl ex : Bool} {sz n : Nat} {cs : List LV} {a : AV} (h : LR s (.lst nl ex sz n cs) a) : (nl = true ∧ a = .nilslice ∧ n = 0 ∧ cs = []) ∨ (nl = false ∧ ∃ b o cap g blk,a = .slice b o n cap g ∧ s.A b ∧ s.am.look b = some blk ∧ o + n * sz ≤ blk.cells.length ∧
    LRs s cs ((blk.cells.drop o).take (n * sz)) ∧ LV.pures cs = true ∧ n ≤ cap ∧ (g = 0 ∨ g = sz) ∧ (ex = true → g = 0 ∧ cap = n)) := by
  cases h with
  | nil => exact .inl ⟨rfl,rfl,rfl,rfl⟩
  | lst => exact .inr ⟨rfl,_,_,_,_,_,rfl,‹_›,‹_›,‹_›,‹_›,‹_›,‹_›,‹_›,‹_›⟩
def OpdR (s : Sit) (le : LEnv) (ae : Env) (x : Opd) : Prop := LR s (evL le x) (x.ev ae)
theorem OpdR.const (hg : GOk s) (c : AV) : OpdR s le ae (.c c) := LR.evC hg c
omit [Glo] in
theorem LR.natL {v : LV} {a : AV} {n : Nat} (h : LR s v a) (e : natL v = some n) : nat? a = some n := by
  cases v <;> simp only [Go.Am.natL] at e <;> first | cases e | skip
  cases h.int_inv
  exact e
omit [Glo] in
theorem LRs.agg_take {cs : List LV} {cs' : List AV} (h : LRs s cs cs') (o n : Nat) : LR s (.agg ((cs.drop o).take n)) (.agg ((cs'.drop o).take n)) := .agg ((h.drop o).take n)
omit [Glo] in
theorem eqInts_ok : ∀ {xs ys : List LV} {xs' ys' : List AV} {q : Bool},LRs s xs xs' → LRs s ys ys' → eqIntsL xs ys = some q → eqInts xs' ys' = some q
  | [],[],_,_,q,.nil,.nil,h => by simpa [eqIntsL,eqInts] using h
  | [],_ :: _,_,_,q,_,_,h => by simp [eqIntsL] at h
  | x :: r,[],_,_,q,_,_,h => by cases x <;> simp [eqIntsL] at h
  | x :: r,y :: t,_,_,q,.cons h1 h2,.cons k1 k2,h => by
    cases x <;> cases y <;> simp only [eqIntsL] at h <;> first | cases h | skip
    rename_i k a k' b
    cases h1.int_inv
    cases k1.int_inv
    simp only [eqInts]
    cases hk : k == k'
    · rw [hk] at h; cases h
    · rw [hk] at h
      simp only [cond_true] at h ⊢
      split at h
      · rename_i q' hq
        rw [eqInts_ok h2 k2 hq]
        exact h
      · cases h
omit [Glo] in
theorem bin_ok {op : BinOp} {x y v : LV} {a b : AV} (hx : LR s x a) (hy : LR s y b) (h : binL op x y = some v) : ∃ av,aBin op a b = some av ∧ LR s v av := by
  cases x <;> cases y <;> simp only [binL] at h <;> first | cases h | skip
  cases hx.int_inv
  cases hy.int_inv
  split at h
  · rename_i av hav
    cases h
    exact ⟨av,hav,LR.ofAV s av⟩
  · cases h
omit [Glo] in
theorem nilOf_ok {x : LV} {a : AV} {b : Bool} (hx : LR s x a) (h : nilOf x = some b) : (b = true ∧ a = .nilslice) ∨ (b = false ∧ ∃ i o l c g,a = .slice i o l c g) := by
  cases x <;> simp only [nilOf,Option.some.injEq] at h <;> first | cases h | skip
  · rcases hx.lst_inv with ⟨h1,h2,_⟩ | ⟨h1,_,_,_,_,_,h2,_⟩
    · exact .inl ⟨h1,h2⟩
    · exact .inr ⟨h1,_,_,_,_,_,h2⟩
  · obtain ⟨_,rfl,_⟩ := hx.sl_inv
    exact .inr ⟨rfl,_,_,_,_,_,rfl⟩
omit [Glo] in
theorem eqs_ok {x y : LV} {a b : AV} {q : Bool} (hx : LR s x a) (hy : LR s y b) (h : eqsL x y = some q) : aEqs a b = some q := by
  unfold eqsL at h
  split at h
  · rename_i p r hp hr
    rcases nilOf_ok hx hp with ⟨rfl,rfl⟩ | ⟨rfl,_,_,_,_,_,rfl⟩ <;> rcases nilOf_ok hy hr with ⟨rfl,rfl⟩ | ⟨rfl,_,_,_,_,_,rfl⟩ <;> simp_all [aEqs]
  · cases h
omit [Glo] in
theorem un_ok {op : UnOp} {x v : LV} {a : AV} (hx : LR s x a) (h : unL op x = some v) : ∃ av,aUn op a = some av ∧ LR s v av := by
  cases op <;> cases x <;> simp only [unL] at h <;> first | cases h | skip
  · cases hx.int_inv; exact ⟨_,rfl,.int _ _⟩
  · cases hx.bool_inv; exact ⟨_,rfl,.bool _⟩
theorem pure_ok {op : AOp} {l : List Opd} (hl : opdsOf op = some l) (hnl : ∀ g n a,op ≠ .load g n a) (hr : ∀ x ∈ l,OpdR s le ae x) {lm lm' : LMem} {v : LV} (h : stepL le lm op = some (v,lm')) (m : Mem) (hs : List Mem) (back : Nat) (slot : Option Nat) :
    lm' = lm ∧ ∃ av,stepOp ae m hs back slot op = some (av,m) ∧ LR s v av := by
  cases op <;> simp only [opdsOf,Option.some.injEq] at hl <;> first | cases hl | skip
  case mov x =>
    simp only [stepL,Option.some.injEq,Prod.mk.injEq] at h
    obtain ⟨rfl,rfl⟩ := h
    exact ⟨rfl,_,rfl,hr x (by simp)⟩
  case pick c a b =>
    have h1 := hr c (by simp); have h2 := hr a (by simp); have h3 := hr b (by simp)
    simp only [stepL] at h
    unfold OpdR at h1
    split at h
    · rename_i t ht
      rw [ht] at h1
      simp only [Option.some.injEq,Prod.mk.injEq] at h
      obtain ⟨rfl,rfl⟩ := h
      refine ⟨rfl,cond t (a.ev ae) (b.ev ae),by simp only [stepOp,h1.bool_inv],?_⟩
      cases t
      · exact h3
      · exact h2
    · cases h
  case load g n a => exact absurd rfl (hnl _ _ _)
  case nilCheck x =>
    have h1 := hr x (by simp)
    unfold OpdR at h1
    simp only [stepL] at h
    split at h <;> simp only [Option.some.injEq,Prod.mk.injEq,reduceCtorEq] at h <;> obtain ⟨rfl,rfl⟩ := h <;> rename_i ht <;> rw [ht] at h1
    · obtain ⟨b,e,_⟩ := h1.ptr_inv; exact ⟨rfl,_,by simp only [stepOp,e],e ▸ h1⟩
    · obtain ⟨b,p,_,e,_⟩ := h1.elt_inv; exact ⟨rfl,_,by simp only [stepOp,e],e ▸ h1⟩
    · obtain ⟨b,p,e,_⟩ := h1.func_inv; exact ⟨rfl,_,by simp only [stepOp,e],e ▸ h1⟩
  case bin op x y =>
    have h1 := hr x (by simp); have h2 := hr y (by simp)
    simp only [stepL] at h
    split at h
    · rename_i w hw
      cases h
      obtain ⟨av,ha,hv⟩ := bin_ok h1 h2 hw
      exact ⟨rfl,av,by simp only [stepOp,ha],hv⟩
    · cases h
  case eqa neg n x y =>
    have h1 := hr x (by simp); have h2 := hr y (by simp)
    unfold OpdR at h1 h2
    simp only [stepL] at h
    split at h
    · rename_i xs ys hxs hys
      rw [hxs] at h1; rw [hys] at h2
      obtain ⟨xs',e1,g1⟩ := h1.agg_inv
      obtain ⟨ys',e2,g2⟩ := h2.agg_inv
      cases hc : (Nat.beq xs.length n && Nat.beq ys.length n)
      · rw [hc] at h; cases h
      · rw [hc] at h
        simp only [cond_true] at h
        split at h
        · rename_i q hq
          cases h
          have hc' : (xs'.length == n && ys'.length == n) = true := by rw [← g1.length,← g2.length]; simpa using hc
          exact ⟨rfl,_,by simp only [stepOp,e1,e2,hc',cond_true,eqInts_ok g1 g2 hq],.bool _⟩
        · cases h
    · cases h
  case eqs neg x y =>
    have h1 := hr x (by simp); have h2 := hr y (by simp)
    simp only [stepL] at h
    split at h
    · rename_i q hq
      cases h
      exact ⟨rfl,_,by simp only [stepOp,eqs_ok h1 h2 hq],.bool _⟩
    · cases h
  case eqb neg x y =>
    have h1 := hr x (by simp); have h2 := hr y (by simp)
    unfold OpdR at h1 h2
    simp only [stepL] at h
    split at h
    · rename_i a b ha hb
      rw [ha] at h1; rw [hb] at h2
      cases h
      exact ⟨rfl,_,by simp only [stepOp,h1.bool_inv,h2.bool_inv],.bool _⟩
    · cases h
  case un op x =>
    have h1 := hr x (by simp)
    simp only [stepL] at h
    split at h
    · rename_i w hw
      cases h
      obtain ⟨av,ha,hv⟩ := un_ok h1 hw
      exact ⟨rfl,av,by simp only [stepOp,ha],hv⟩
    · cases h
  case conv k x =>
    have h1 := hr x (by simp)
    unfold OpdR at h1
    simp only [stepL] at h
    split at h
    · rename_i k' n hn
      rw [hn] at h1
      cases h
      exact ⟨rfl,_,by simp only [stepOp,h1.int_inv],.int _ _⟩
    · cases h
  case fieldA off x =>
    have h1 := hr x (by simp)
    unfold OpdR at h1
    simp only [stepL] at h
    split at h <;> simp only [Option.some.injEq,Prod.mk.injEq,reduceCtorEq] at h <;> obtain ⟨rfl,rfl⟩ := h <;> rename_i ht <;> rw [ht] at h1
    · obtain ⟨b,e,g1,g2⟩ := h1.ptr_inv; exact ⟨rfl,_,by simp only [stepOp,e],.ptr g1 g2⟩
    · obtain ⟨b,p,blk,e,g1,g2,g3,g4,g5⟩ := h1.elt_inv
      exact ⟨rfl,.ptr b (p + (_ + off)),by simp only [stepOp,e,Nat.add_assoc],.elt g1 g2 g3 g4 g5⟩
  case field off n agg x =>
    have h1 := hr x (by simp)
    unfold OpdR at h1
    simp only [stepL] at h
    split at h
    · rename_i cs hcs
      rw [hcs] at h1
      obtain ⟨cs',e1,g1⟩ := h1.agg_inv
      cases agg
      · simp only [cond_false] at h
        split at h
        · rename_i w hw
          cases h
          obtain ⟨u,hu,hr'⟩ := g1.get hw
          exact ⟨rfl,u,by simp only [stepOp,e1,cond_false,hu],hr'⟩
        · cases h
      · simp only [cond_true,Option.some.injEq,Prod.mk.injEq] at h
        obtain ⟨rfl,rfl⟩ := h
        exact ⟨rfl,_,by simp only [stepOp,e1,cond_true],g1.agg_take _ _⟩
    · cases h
  case idxA arr size x i =>
    have h1 := hr x (by simp); have h2 := hr i (by simp)
    unfold OpdR at h1
    simp only [stepL] at h
    split at h
    · cases h
    · rename_i j hj
      have hj' := LR.natL h2 hj
      split at h <;> first | cases h | skip
      · rename_i len b o L hx
        rw [hx] at h1
        obtain ⟨b',e,g1,g2⟩ := h1.ptr_inv
        cases hc : Nat.blt j len <;> rw [hc] at h <;> simp only [cond_true,cond_false,Option.some.injEq,Prod.mk.injEq,reduceCtorEq] at h
        obtain ⟨rfl,rfl⟩ := h
        exact ⟨rfl,_,by simp only [stepOp,hj',e,hc,cond_true],.ptr g1 g2⟩
      · rename_i len cs o hx
        rw [hx] at h1
        obtain ⟨b,p,blk,e,g1,g2,g3,g4,g5⟩ := h1.elt_inv
        cases hc : Nat.blt j len <;> rw [hc] at h <;> simp only [cond_true,cond_false,Option.some.injEq,Prod.mk.injEq,reduceCtorEq] at h
        obtain ⟨rfl,rfl⟩ := h
        exact ⟨rfl,.ptr b (p + (o + j * size)),by simp only [stepOp,hj',e,hc,cond_true,Nat.add_assoc],.elt g1 g2 g3 g4 g5⟩
      · rename_i b o n cap g sz L hx
        rw [hx] at h1
        obtain ⟨b',e,g1,g2,g3⟩ := h1.sl_inv
        cases hc : Nat.blt j n <;> rw [hc] at h <;> simp only [cond_true,cond_false,Option.some.injEq,Prod.mk.injEq,reduceCtorEq] at h
        obtain ⟨rfl,rfl⟩ := h
        exact ⟨rfl,_,by simp only [stepOp,hj',e,hc,cond_true],.ptr g1 g2⟩
      · rename_i nl ex sz n cs hx
        rw [hx] at h1
        cases hc : Nat.blt j n <;> rw [hc] at h <;> simp only [cond_true,cond_false,Option.some.injEq,Prod.mk.injEq,reduceCtorEq] at h
        obtain ⟨rfl,rfl⟩ := h
        rcases h1.lst_inv with ⟨_,_,rfl,_⟩ | ⟨_,b,o,cap,g,blk,e,g1,g2,g3,g4,g5,g6,g7,g8⟩
        · simp [Nat.blt] at hc
        · have hlen := g4.length
          rw [take_of_length _ _ _ g3] at hlen
          exact ⟨rfl,.ptr b (o + j * size),by simp only [stepOp,hj',e,hc,cond_true],.elt g1 g2 (by omega) (by rw [hlen]; exact g4) g5⟩
  case idx len size agg x i =>
    have h1 := hr x (by simp); have h2 := hr i (by simp)
    unfold OpdR at h1
    simp only [stepL] at h
    split at h
    · rename_i j cs hj hx
      have hj' := LR.natL h2 hj
      rw [hx] at h1
      obtain ⟨cs',e1,g1⟩ := h1.agg_inv
      cases hc : Nat.blt j len <;> rw [hc] at h <;> simp only [cond_true,cond_false,reduceCtorEq] at h
      cases agg
      · simp only [cond_false] at h
        split at h
        · rename_i w hw
          cases h
          obtain ⟨u,hu,hr'⟩ := g1.get hw
          exact ⟨rfl,u,by simp only [stepOp,hj',e1,hc,cond_true,cond_false,hu],hr'⟩
        · cases h
      · simp only [cond_true,Option.some.injEq,Prod.mk.injEq] at h
        obtain ⟨rfl,rfl⟩ := h
        exact ⟨rfl,_,by simp only [stepOp,hj',e1,hc,cond_true],g1.agg_take _ _⟩
    · cases h
  case ext x i =>
    have h1 := hr x (by simp)
    unfold OpdR at h1
    simp only [stepL] at h
    split at h
    · rename_i vs hx
      rw [hx] at h1
      obtain ⟨cs',e1,g1⟩ := h1.tup_inv
      split at h
      · rename_i w hw
        cases h
        obtain ⟨u,hu,hr'⟩ := g1.get hw
        exact ⟨rfl,u,by simp only [stepOp,e1,hu],hr'⟩
      · cases h
    · cases h
  case len x =>
    have h1 := hr x (by simp)
    unfold OpdR at h1
    simp only [stepL] at h
    split at h
    · rename_i n hn
      cases h
      refine ⟨rfl,.int .i64 n,?_,.int _ _⟩
      have : sliceLen (x.ev ae) = some n := by
        generalize evL le x = w at h1 hn
        cases w <;> simp only [lenL,Option.some.injEq] at hn <;> first | cases hn | skip
        · rcases h1.lst_inv with ⟨_,e,rfl,_⟩ | ⟨_,b,o,cap,g,blk,e,_⟩
          · rw [e]; rfl
          · rw [e]; rfl
        · obtain ⟨_,e,_⟩ := h1.sl_inv
          rw [e]; rfl
      simp only [stepOp,this]
    · cases h
end
end Go.Am
