/-
  THE ABSTRACT MACHINE, 10: orders: what the model draws for a region is an order in which each operation comes behind those that it needs; what the canonical order is checked for.
-/
import Derived.Test.YtoppeojgadbjeaaAm9
set_option linter.unusedVariables false
set_option linter.unusedSimpArgs false
namespace Go.Am
variable [Glo]
inductive Lin (n : Nat) (need : Nat → Nat → Prop) : (Nat → Prop) → List Nat → Prop
  | nil {S : Nat → Prop} (h : ∀ i,i < n → S i) : Lin n need S []
  | cons {S : Nat → Prop} {i : Nat} {r : List Nat} (hi : i < n) (hn : ¬ S i) (hp : ∀ j,need i j → S j) (hr : Lin n need (fun k => S k ∨ k = i) r) : Lin n need S (i :: r)
def direct (ops : Array Oper) (i j : Nat) : Prop := ∃ o,ops[i]? = some o ∧ ∃ e ∈ o.after,Region.binds .any e = true ∧ e.on = j
omit [Glo] in
theorem lin_go (ops : Array Oper) (hlt : ∀ i j,direct ops i j → j < i) : ∀ (fuel t : Nat) (listed : Array Bool) (acc : List Nat),listed.size = ops.size →
    ((List.range ops.size).filter fun i => !listed.getD i true).length = fuel →
    ∃ r,Region.linearise.go .any ops fuel t listed acc = acc.reverse ++ r ∧ Lin ops.size (direct ops) (fun i => listed.getD i false = true) r
  | 0,t,listed,acc,hs,hf => by
    refine ⟨[],by simp [Region.linearise.go],.nil fun i hi => ?_⟩
    have h0 := List.eq_nil_of_length_eq_zero hf
    rw [List.filter_eq_nil_iff] at h0
    have := h0 i (by simpa using hi)
    simp only [Array.getD_eq_getD_getElem?,Array.getElem?_eq_getElem (show i < listed.size by omega),Option.getD_some] at this ⊢
    simpa using this
  | fuel + 1,t,listed,acc,hs,hf => by
    have get : ∀ i,i < ops.size → listed.getD i true = listed.getD i false := fun i hi => by
      simp only [Array.getD_eq_getD_getElem?,Array.getElem?_eq_getElem (show i < listed.size by omega),Option.getD_some]
    let rs := (List.range ops.size).filter fun i => !listed.getD i true && ((ops[i]?).map (·.after.all fun e => !Region.binds .any e || listed.getD e.on false)).getD false
    have hrs : rs ≠ [] := by
      -- the smallest one that is not listed
      have hex : ∃ i,i < ops.size ∧ listed.getD i true = false := by
        cases hl : (List.range ops.size).filter fun i => !listed.getD i true with
        | nil => rw [hl] at hf; simp at hf
        | cons i r =>
          have : i ∈ (List.range ops.size).filter fun i => !listed.getD i true := by rw [hl]; simp
          rw [List.mem_filter] at this
          exact ⟨i,by simpa using this.1,by simpa using this.2⟩
      have hmin : ∀ (k : Nat),(∃ i,i ≤ k ∧ i < ops.size ∧ listed.getD i true = false) → ∃ i,i < ops.size ∧ listed.getD i true = false ∧ ∀ j,j < i → listed.getD j true = true := by
        intro k
        induction k with
        | zero => rintro ⟨i,h1,h2,h3⟩; exact ⟨i,h2,h3,fun j hj => by omega⟩
        | succ k ih =>
          rintro ⟨i,h1,h2,h3⟩
          by_cases hq : ∃ i,i ≤ k ∧ i < ops.size ∧ listed.getD i true = false
          · exact ih hq
          · refine ⟨i,h2,h3,fun j hj => ?_⟩
            cases hjl : listed.getD j true
            · exact absurd ⟨j,by omega,by omega,hjl⟩ hq
            · rfl
      obtain ⟨i0,hi0,hl0⟩ := hex
      obtain ⟨i,hi,hl,hall⟩ := hmin i0 ⟨i0,Nat.le_refl _,hi0,hl0⟩
      have : i ∈ rs := by
        rw [List.mem_filter]
        refine ⟨by simpa using hi,?_⟩
        rw [hl]
        simp only [Bool.not_false,Bool.true_and,Array.getElem?_eq_getElem hi,Option.map_some,Option.getD_some]
        rw [Array.all_eq_true_iff_forall_mem]
        intro e he
        cases hb : Region.binds .any e
        · rfl
        · have := hlt i e.on ⟨ops[i],by simp [hi],e,he,hb,rfl⟩
          simp only [Bool.not_true,Bool.false_or]
          rw [← get e.on (by omega)]
          exact hall _ this
      exact fun h0 => by rw [h0] at this; cases this
    have hlen : 0 < rs.length := List.length_pos_iff.2 hrs
    have hpick : ∃ i,rs[t % rs.length]? = some i ∧ i ∈ rs := ⟨_,List.getElem?_eq_getElem (Nat.mod_lt _ hlen),List.getElem_mem _⟩
    obtain ⟨i,hpi,hmem⟩ := hpick
    have hgo : Region.linearise.go .any ops (fuel + 1) t listed acc = Region.linearise.go .any ops fuel (t / rs.length) (listed.setIfInBounds i true) (i :: acc) := by
      rw [Region.linearise.go]
      simp only [show ((List.range ops.size).filter fun i => !listed.getD i true && ((ops[i]?).map (·.after.all fun e => !Region.binds .any e || listed.getD e.on false)).getD false) = rs from rfl,hpi]
    rw [List.mem_filter] at hmem
    have hi : i < ops.size := by simpa using hmem.1
    have hm2 := hmem.2
    simp only [Bool.and_eq_true,Bool.not_eq_true',Array.getElem?_eq_getElem hi,Option.map_some,Option.getD_some] at hm2
    obtain ⟨hnl,hall⟩ := hm2
    have hset : ∀ k,(listed.setIfInBounds i true).getD k true = if k = i then true else listed.getD k true := fun k => by
      simp only [Array.getD_eq_getD_getElem?,Array.getElem?_setIfInBounds]
      by_cases hk : i = k
      · subst hk; simp [show i < listed.size by omega]
      · simp [hk,Ne.symm hk]
    have hset2 : ∀ k,(listed.setIfInBounds i true).getD k false = true ↔ (listed.getD k false = true ∨ k = i) := fun k => by
      simp only [Array.getD_eq_getD_getElem?,Array.getElem?_setIfInBounds]
      by_cases hk : i = k
      · subst hk; simp [show i < listed.size by omega]
      · simp [hk,Ne.symm hk]
    obtain ⟨r,h1,h2⟩ := lin_go ops hlt fuel (t / rs.length) (listed.setIfInBounds i true) (i :: acc) (by simpa using hs) (by
      have e1 : ((List.range ops.size).filter fun k => !(listed.setIfInBounds i true).getD k true) = ((List.range ops.size).filter fun k => !listed.getD k true).filter fun k => k != i := by
        rw [List.filter_filter]
        apply List.filter_congr
        intro k _
        rw [hset]
        by_cases hk : k = i <;> simp [hk]
      have hmemi : i ∈ (List.range ops.size).filter fun k => !listed.getD k true := by rw [List.mem_filter]; exact ⟨by simpa using hi,by simp [hnl]⟩
      have hnd : ((List.range ops.size).filter fun k => !listed.getD k true).Nodup := List.Pairwise.filter _ List.nodup_range
      rw [e1,← List.Nodup.erase_eq_filter hnd,List.length_erase_of_mem hmemi,hf]
      rfl)
    refine ⟨i :: r,by rw [hgo,h1]; simp,.cons hi (by rw [← get i hi,hnl]; simp) (fun j hj => ?_) ?_⟩
    · obtain ⟨o,ho,e,he,hb,rfl⟩ := hj
      rw [Array.getElem?_eq_getElem hi] at ho
      cases ho
      rw [Array.all_eq_true_iff_forall_mem] at hall
      have := hall e he
      rw [hb] at this
      simpa using this
    · have : (fun k => (listed.setIfInBounds i true).getD k false = true) = fun k => listed.getD k false = true ∨ k = i := funext fun k => propext (hset2 k)
      rw [← this]; exact h2
omit [Glo] in
theorem lin_schedule (ops : Array Oper) (hlt : ∀ i j,direct ops i j → j < i) (t : Nat) : Lin ops.size (direct ops) (fun _ => False) (Region.schedule true ops t) := by
  have hs : Region.schedule true ops t = Region.linearise .any ops t := by simp [Region.schedule]
  rw [hs,Region.linearise]
  obtain ⟨r,h1,h2⟩ := lin_go ops hlt ops.size t (Array.replicate ops.size false) [] (by simp) (by
    have : ((List.range ops.size).filter fun i => !(Array.replicate ops.size false).getD i true) = List.range ops.size := by
      rw [List.filter_eq_self]
      intro i hi
      have : i < ops.size := by simpa using hi
      simp [Array.getD_eq_getD_getElem?,Array.getElem?_replicate,this]
    rw [this,List.length_range])
  rw [h1]
  simp only [List.reverse_nil,List.nil_append]
  have : (fun i => (Array.replicate ops.size false).getD i false = true) = fun _ => False := funext fun i => propext (by
    simp only [Array.getD_eq_getD_getElem?,Array.getElem?_replicate]
    split <;> simp)
  rw [this] at h2
  exact h2
omit [Glo] in
theorem befores_spec : ∀ (l : List Oper) (acc : List Nat) (i : Nat),(befores l acc).getD i 0 = if i < acc.length then acc.getD i 0 else
    match l[i - acc.length]? with
    | some o => o.after.toList.foldl (fun s e => cond (Region.binds .any e) (s ||| 2 ^ e.on ||| (cond (Nat.blt e.on i) ((befores l acc).getD e.on 0) 0)) s) 0
    | none => 0
  | [],acc,i => by
    simp only [befores]
    by_cases h : i < acc.length
    · rw [if_pos h]
    · rw [if_neg h]; simp [List.getD,List.getElem?_eq_none (Nat.le_of_not_lt h)]
  | o :: r,acc,i => by
    have ih := befores_spec r (acc ++ [o.after.toList.foldl (fun s e => cond (Region.binds .any e) (s ||| 2 ^ e.on ||| acc.getD e.on 0) s) 0])
    simp only [befores]
    rw [ih i]
    simp only [List.length_append,List.length_cons,List.length_nil,Nat.zero_add]
    have hacc : ∀ k,k < acc.length → (befores r (acc ++ [o.after.toList.foldl (fun s e => cond (Region.binds .any e) (s ||| 2 ^ e.on ||| acc.getD e.on 0) s) 0])).getD k 0 = acc.getD k 0 := fun k hk => by
      rw [ih k,if_pos (by simp; omega)]
      simp [List.getD,List.getElem?_append_left hk]
    by_cases h : i < acc.length
    · rw [if_pos (by omega),if_pos h]
      simp [List.getD,List.getElem?_append_left h]
    · rw [if_neg h]
      by_cases h2 : i = acc.length
      · subst h2
        rw [if_pos (by omega)]
        simp only [Nat.sub_self,List.getElem?_cons_zero]
        rw [List.getD,List.getElem?_append_right (Nat.le_refl _)]
        simp only [Nat.sub_self,List.getElem?_cons_zero,Option.getD_some]
        congr 1
        funext s e
        cases hb : Nat.blt e.on acc.length
        · have : ¬ e.on < acc.length := by rw [← Nat.blt_eq]; simp [hb]
          simp [List.getElem?_eq_none (Nat.le_of_not_lt this)]
        · have : e.on < acc.length := by simpa using hb
          simp only [cond_true]
          rw [hacc _ this]
      · rw [if_neg (by omega)]
        have : i - acc.length = (i - (acc.length + 1)) + 1 := by omega
        rw [this,List.getElem?_cons_succ]
omit [Glo] in
theorem foldl_bits (f : Edge → Nat) : ∀ (l : List Edge) (s k : Nat),(l.foldl (fun s e => cond (Region.binds .any e) (s ||| 2 ^ e.on ||| f e) s) s).testBit k = true ↔
    (s.testBit k = true ∨ ∃ e ∈ l,Region.binds .any e = true ∧ (e.on = k ∨ (f e).testBit k = true))
  | [],s,k => by simp
  | e :: r,s,k => by
    rw [List.foldl_cons,foldl_bits f r]
    cases hb : Region.binds .any e
    · simp [hb]
    · simp only [cond_true,Nat.testBit_or,Nat.testBit_two_pow,Bool.or_eq_true,decide_eq_true_eq,List.mem_cons,exists_eq_or_imp,hb,true_and]
      constructor
      · rintro (((h | h) | h) | h)
        · exact .inl h
        · exact .inr (.inl (.inl h))
        · exact .inr (.inl (.inr h))
        · exact .inr (.inr h)
      · rintro (h | (h | h) | h)
        · exact .inl (.inl (.inl h))
        · exact .inl (.inl (.inr h))
        · exact .inl (.inr h)
        · exact .inr h
omit [Glo] in
theorem befores_bit (ops : Array Oper) (i k : Nat) : ((befores ops.toList []).getD i 0).testBit k = true ↔
    ∃ j,direct ops i j ∧ (j = k ∨ (j < i ∧ ((befores ops.toList []).getD j 0).testBit k = true)) := by
  rw [befores_spec ops.toList [] i]
  simp only [List.length_nil,Nat.not_lt_zero,if_false,Nat.sub_zero]
  constructor
  · intro h
    split at h
    · rename_i o ho
      rw [foldl_bits] at h
      rcases h with h | ⟨e,he,hb,h⟩
      · simp at h
      · refine ⟨e.on,⟨o,by simpa using ho,e,by simpa using he,hb,rfl⟩,?_⟩
        rcases h with h | h
        · exact .inl h
        · cases hlt : Nat.blt e.on i
          · rw [hlt] at h; simp at h
          · rw [hlt] at h; exact .inr ⟨by simpa using hlt,by simpa using h⟩
    · simp at h
  · rintro ⟨j,⟨o,ho,e,he,hb,rfl⟩,h⟩
    have ho' : ops.toList[i]? = some o := by simpa using ho
    rw [ho']
    simp only
    rw [foldl_bits]
    refine .inr ⟨e,by simpa using he,hb,?_⟩
    rcases h with h | ⟨h1,h2⟩
    · exact .inl h
    · refine .inr ?_
      rw [show Nat.blt e.on i = true by simpa using h1]
      simpa using h2
end Go.Am
