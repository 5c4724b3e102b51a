/-
  THE LIST MACHINE, 15: memory that a call leaves as it was, but for some blocks; blocks that nothing refers to. No statement of the seat is proved here.
-/
import Derived.Test.YtheppipmnfjdcaaDoorLm14
set_option linter.unusedVariables false
set_option linter.unusedSimpArgs false
namespace Go.Am.G
variable [Glo]
def NR (i : Nat) (m : LMem) : Prop := ∀ b ∈ m,LV.noRefs i b.cells = true
def Cl (m : LMem) : Prop := ∀ i,m.length ≤ i → NR i m
omit [Glo] in
mutual
theorem under_noRef {k i : Nat} (h : k ≤ i) : ∀ {v : LV},LV.under k v = true → LV.noRef i v = true
  | .ptr j _ _,e => by simp only [LV.under,nblt,decide_eq_true_eq] at e; simp only [LV.noRef,nbeq,Bool.not_eq_true',decide_eq_false_iff_not]; omega
  | .sl j _ _ _ _ _ _,e => by simp only [LV.under,nblt,decide_eq_true_eq] at e; simp only [LV.noRef,nbeq,Bool.not_eq_true',decide_eq_false_iff_not]; omega
  | .map j,e => by simp only [LV.under,nblt,decide_eq_true_eq] at e; simp only [LV.noRef,nbeq,Bool.not_eq_true',decide_eq_false_iff_not]; omega
  | .func _ a b,e => by
    simp only [LV.under,Bool.and_eq_true] at e
    simp only [LV.noRef,unders_noRefs h e.1,unders_noRefs h e.2,Bool.and_self]
  | .agg cs,e => by simp only [LV.under] at e; simp only [LV.noRef,unders_noRefs h e]
  | .tup cs,e => by simp only [LV.under] at e; simp only [LV.noRef,unders_noRefs h e]
  | .ents cs,e => by simp only [LV.under] at e; simp only [LV.noRef,unders_noRefs h e]
  | .away _ _ s x,e => by
    simp only [LV.under,Bool.and_eq_true] at e
    simp only [LV.noRef,under_noRef h e.1,under_noRef h e.2,Bool.and_self]
  | .undef,_ => rfl
  | .bool _,_ => rfl
  | .int _ _,_ => rfl
  | .nilptr,_ => rfl
  | .nilFunc,_ => rfl
  | .nilIface,_ => rfl
  | .elt _ _,_ => rfl
  | .lst _ _ _ _ _,_ => rfl
  | .nilmap,_ => rfl
theorem unders_noRefs {k i : Nat} (h : k ≤ i) : ∀ {l : List LV},LV.unders k l = true → LV.noRefs i l = true
  | [],_ => rfl
  | a :: r,e => by
    simp only [LV.unders,Bool.and_eq_true] at e
    simp only [LV.noRefs,under_noRef h e.1,unders_noRefs h e.2,Bool.and_self]
end
omit [Glo] in
theorem belowM_cl {k : Nat} {m : LMem} (h : belowM k m = true) (i : Nat) (hi : k ≤ i) : NR i m := by
  intro b hb
  unfold belowM at h
  rw [List.all_eq_true] at h
  exact unders_noRefs hi (h b hb)
omit [Glo] in
theorem trim_or (k : Nat) (vs : List LV) (m : LMem) : trim k vs m = m ∨ (trim k vs m = m.take k ∧ belowM k (m.take k) = true) := by
  unfold trim
  cases h : (LV.unders k vs && belowM k (m.take k))
  · exact .inl rfl
  · simp only [Bool.and_eq_true] at h
    exact .inr ⟨rfl,h.2⟩
structure Exn (m m' : LMem) (O : List Nat) : Prop where
  len : m.length ≤ m'.length
  keep : ∀ i,i < m.length → i ∉ O → m'[i]? = m[i]?
  nr : ∀ i,i < m.length → NR i m → NR i m'
  cl : Cl m → Cl m'
omit [Glo] in
theorem Exn.rfl' (m : LMem) (O : List Nat) : Exn m m O := ⟨Nat.le_refl _,fun _ _ _ => rfl,fun _ _ h => h,fun h => h⟩
omit [Glo] in
theorem Exn.trans {m m1 m2 : LMem} {O O1 : List Nat} (h1 : Exn m m1 O) (h2 : Exn m1 m2 O1) (hO : ∀ i ∈ O1,i ∈ O ∨ m.length ≤ i) : Exn m m2 O :=
  ⟨Nat.le_trans h1.len h2.len,fun i hi hn => by
    rw [h2.keep i (Nat.lt_of_lt_of_le hi h1.len) (fun hc => by rcases hO i hc with h | h; exact hn h; omega),h1.keep i hi hn],
   fun i hi h => h2.nr i (Nat.lt_of_lt_of_le hi h1.len) (h1.nr i hi h),fun h => h2.cl (h1.cl h)⟩
omit [Glo] in
theorem Exn.trim {m m' : LMem} {O : List Nat} (h : Exn m m' O) (vs : List LV) : Exn m (trim m.length vs m') O := by
  rcases trim_or m.length vs m' with e | ⟨e,hb⟩
  · rw [e]; exact h
  · rw [e]
    have hl : (m'.take m.length).length = m.length := by rw [List.length_take]; have := h.len; omega
    refine ⟨by omega,fun i hi hn => ?_,fun i hi hN b hb' => h.nr i hi hN b (List.mem_of_mem_take hb'),fun _ i hi => belowM_cl hb i (by omega)⟩
    rw [List.getElem?_take,if_pos hi,h.keep i hi hn]
omit [Glo] in
theorem NR.app {i : Nat} {m : LMem} {b : LBlk} (h : NR i m) (hb : LV.noRefs i b.cells = true) : NR i (m ++ [b]) := by
  intro c hc
  rcases List.mem_append.1 hc with h' | h'
  · exact h c h'
  · rw [List.mem_singleton.1 h']; exact hb
omit [Glo] in
theorem NR.set {i j : Nat} {m : LMem} {b : LBlk} (h : NR i m) (hb : LV.noRefs i b.cells = true) : NR i (m.set j b) := by
  intro c hc
  rcases List.mem_or_eq_of_mem_set hc with h' | h'
  · exact h c h'
  · rw [h']; exact hb
omit [Glo] in
theorem noRefs_int (i : Nat) (k : IntKind) : ∀ l : List Int,LV.noRefs i (l.map (LV.int k)) = true
  | [] => rfl
  | a :: r => by simp only [List.map_cons,LV.noRefs,LV.noRef,noRefs_int i k r,Bool.and_self]
omit [Glo] in
theorem Exn.app {m : LMem} (O : List Nat) {b : LBlk} (hb : ∀ i,LV.noRefs i b.cells = true) : Exn m (m ++ [b]) O :=
  ⟨by simp,fun i hi _ => by rw [List.getElem?_append_left hi],fun i _ h => h.app (hb i),fun h i hi => (h i (by simp at hi; omega)).app (hb i)⟩
omit [Glo] in
theorem Exn.set {m : LMem} (O : List Nat) {j : Nat} {b : LBlk} (hj : j ∈ O) (hb : ∀ i,LV.noRefs i b.cells = true) : Exn m (m.set j b) O :=
  ⟨by simp,fun i hi hn => by
    have : ¬ j = i := fun e => hn (e ▸ hj)
    simp [List.getElem?_set,this],fun i _ h => h.set (hb i),fun h i hi => (h i (by simpa using hi)).set (hb i)⟩
omit [Glo] in
theorem Exn.back {m m2 : LMem} {O : List Nat} {j : Nat} {b : LBlk} (h : Exn m m2 (j :: O)) (hj : m[j]? = some b) (hb : ∀ i,LV.noRefs i b.cells = true) : Exn m (m2.set j b) O := by
  refine ⟨by simpa using h.len,fun i hi hn => ?_,fun i hi hN => (h.nr i hi hN).set (hb i),fun hc i hi => (h.cl hc i (by simpa using hi)).set (hb i)⟩
  have hl := h.len
  by_cases c : j = i
  · subst c
    rw [List.getElem?_set_self (by omega),hj]
  · rw [List.getElem?_set_ne c,h.keep i hi (by simp [hn]; exact fun e => c e.symm)]
omit [Glo] in
theorem Exn.mono {m m2 : LMem} {O O' : List Nat} (h : Exn m m2 O) (hO : ∀ i ∈ O,i ∈ O') : Exn m m2 O' :=
  ⟨h.len,fun i hi hn => h.keep i hi fun hc => hn (hO i hc),h.nr,h.cl⟩
def entM (E : List (Nat × LV)) : List LV := E.flatMap fun e => [.int .i64 (e.1 : Int),e.2]
omit [Glo] in
theorem find_none (x : Nat) : ∀ (E : List (Nat × LV)) (j : Nat),(∀ e ∈ E,e.1 ≠ x) → findML (.int .i64 (x : Int)) (entM E) j = some none
  | [],j,_ => rfl
  | (a,v) :: r,j,h => by
    have ha : a ≠ x := h (a,v) (by simp)
    have ih := find_none x r (j + 2) fun e he => h e (by simp [he])
    have hq : ((x : Int) == (a : Int)) = false := by rw [beq_eq_false_iff_ne]; omega
    simp only [entM,List.flatMap_cons,List.cons_append,List.nil_append] at ih ⊢
    simp only [findML,keyEqL,kind_beq,cond_true,hq,ih]
omit [Glo] in
theorem find_some (x : Nat) (v : LV) (B : List (Nat × LV)) : ∀ (A : List (Nat × LV)) (j : Nat),(∀ e ∈ A,e.1 ≠ x) → findML (.int .i64 (x : Int)) (entM (A ++ (x,v) :: B)) j = some (some (j + 2 * A.length,v))
  | [],j,_ => by
    simp only [entM,List.nil_append,List.flatMap_cons,List.cons_append,findML,keyEqL,kind_beq,cond_true,BEq.rfl,List.length_nil,Nat.mul_zero,Nat.add_zero]
  | (a,w) :: r,j,h => by
    have ha : a ≠ x := h (a,w) (by simp)
    have ih := find_some x v B r (j + 2) fun e he => h e (by simp [he])
    have hq : ((x : Int) == (a : Int)) = false := by rw [beq_eq_false_iff_ne]; omega
    simp only [entM,List.flatMap_cons,List.cons_append,List.nil_append] at ih ⊢
    simp only [findML,keyEqL,kind_beq,cond_true,hq,ih,List.length_cons]
    congr 2
    simp only [Prod.mk.injEq,and_true]
    omega
omit [Glo] in
theorem entM_set (x : Nat) (v v' : LV) (B : List (Nat × LV)) : ∀ (A : List (Nat × LV)),(entM (A ++ (x,v) :: B)).set (0 + 2 * A.length + 1) v' = entM (A ++ (x,v') :: B)
  | [] => by simp [entM]
  | (a,w) :: r => by
    have ih := entM_set x v v' B r
    have e : 0 + 2 * ((a,w) :: r).length + 1 = (0 + 2 * r.length + 1) + 1 + 1 := by simp; omega
    rw [e]
    simp only [entM,List.flatMap_cons,List.cons_append,List.nil_append,List.set_cons_succ] at ih ⊢
    rw [ih]
omit [Glo] in
theorem entM_snoc (E : List (Nat × LV)) (x : Nat) (v : LV) : entM E ++ [.int .i64 (x : Int),v] = entM (E ++ [(x,v)]) := by
  simp [entM]
omit [Glo] in
theorem entM_noRefs (i : Nat) : ∀ (E : List (Nat × LV)),LV.noRefs i (entM E) = true ↔ ∀ e ∈ E,LV.noRef i e.2 = true
  | [] => by simp [entM,LV.noRefs]
  | (a,v) :: r => by
    have ih := entM_noRefs i r
    simp only [entM,List.flatMap_cons,List.cons_append,List.nil_append,LV.noRefs,LV.noRef,Bool.true_and,Bool.and_eq_true,List.mem_cons,forall_eq_or_imp] at ih ⊢
    rw [ih]
omit [Glo] in
theorem entM_unders (k : Nat) : ∀ (E : List (Nat × LV)),LV.unders k (entM E) = true ↔ ∀ e ∈ E,LV.under k e.2 = true
  | [] => by simp [entM,LV.unders]
  | (a,v) :: r => by
    have ih := entM_unders k r
    simp only [entM,List.flatMap_cons,List.cons_append,List.nil_append,LV.unders,LV.under,Bool.true_and,Bool.and_eq_true,List.mem_cons,forall_eq_or_imp] at ih ⊢
    rw [ih]
end Go.Am.G
