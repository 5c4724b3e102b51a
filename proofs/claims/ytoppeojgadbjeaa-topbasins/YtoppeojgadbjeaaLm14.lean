/-
  THE LIST MACHINE, 14: lists that grow in any memory, and calls that are shown memory. No statement of the seat is proved here.
-/
import Derived.Test.YtoppeojgadbjeaaLm13
set_option linter.unusedVariables false
set_option linter.unusedSimpArgs false
namespace Go.Am.G
variable [Glo]
def Lst (m : LMem) (v : LV) (sz n : Nat) (cs : List LV) : Prop :=
  (∃ nl ex z,v = .lst nl ex z n cs ∧ (nl = true ∨ ex = true) ∧ (n = 0 ∨ z = sz) ∧ (nl = true → n = 0) ∧ cs.length = n * sz) ∨ (∃ b,v = .sl b 0 n n sz sz (n * sz) ∧ m[b]? = some ⟨cs,true⟩ ∧ cs.length = n * sz ∧ 0 < n)
def isBlk (v : LV) (i : Nat) : Prop := match v with
  | .sl b _ _ _ _ _ _ => b = i
  | _ => False
omit [Glo] in
theorem Lst.nil (m : LMem) (sz : Nat) : Lst m (.lst true true 0 0 []) sz 0 [] := .inl ⟨true,true,0,rfl,.inl rfl,.inl rfl,fun _ => rfl,by simp⟩
omit [Glo] in
theorem Lst.len {m : LMem} {v : LV} {sz n : Nat} {cs : List LV} (h : Lst m v sz n cs) : cs.length = n * sz := by
  rcases h with ⟨_,_,_,_,_,_,_,h⟩ | ⟨_,_,_,h,_⟩ <;> exact h
omit [Glo] in
theorem Lst.lenL {m : LMem} {v : LV} {sz n : Nat} {cs : List LV} (h : Lst m v sz n cs) : lenL v = some n := by
  rcases h with ⟨nl,ex,z,rfl,_⟩ | ⟨b,rfl,_⟩ <;> rfl
omit [Glo] in
theorem Lst.mono {m m' : LMem} {v : LV} {sz n : Nat} {cs : List LV} (h : Lst m v sz n cs) (hm : ∀ i,isBlk v i → m'[i]? = m[i]?) : Lst m' v sz n cs := by
  rcases h with h | ⟨b,rfl,h1,h2,h3⟩
  · exact .inl h
  · exact .inr ⟨b,rfl,by rw [hm b rfl]; exact h1,h2,h3⟩
omit [Glo] in
theorem Lst.lt {m : LMem} {v : LV} {sz n : Nat} {cs : List LV} (h : Lst m v sz n cs) (i : Nat) (hi : isBlk v i) : i < m.length := by
  rcases h with ⟨nl,ex,z,rfl,_⟩ | ⟨b,rfl,h1,_⟩
  · cases hi
  · cases hi
    rw [List.getElem?_eq_some_iff] at h1; exact h1.1
omit [Glo] in
theorem Lst.contents {m : LMem} {v : LV} {sz n : Nat} {cs : List LV} (h : Lst m v sz n cs) : contents m sz v = some (cs,n) := by
  rcases h with ⟨nl,ex,z,rfl,_,h,hl⟩ | ⟨b,rfl,h1,h2,h3⟩
  · obtain ⟨_,hl⟩ := hl
    simp only [Go.Am.contents,nbeq]
    rcases h with rfl | rfl
    · simp
    · simp
  · simp only [Go.Am.contents,h1]
    simp only [nbeq,nble,h2,Nat.zero_add,Nat.le_refl,decide_true,Bool.and_self,cond_true,List.drop_zero]
    rw [List.take_of_length_le (by omega)]
omit [Glo] in
theorem Lst.append {m : LMem} {v x : LV} {sz n k bytes : Nat} {cs news : List LV} (h : Lst m v sz n cs) (hx : Go.Am.contents m sz x = some (news,k)) (hl : news.length = k * sz) (hsz : 0 < sz) (hr : (n + k) * bytes ≤ 140737488355328 ∧ n + k ≤ 140737488355328) (hsc : news.all LV.scalar = true) :
    ∃ v' m',appendL m sz bytes v x = some (v',m') ∧ Lst m' v' sz (n + k) (cs ++ news) ∧ (∀ i,i < m.length → ¬ isBlk v i → m'[i]? = m[i]?) ∧ m.length ≤ m'.length ∧ (∀ i,isBlk v' i → isBlk v i ∨ m.length ≤ i) := by
  have hc := h.contents
  have hlen := h.len
  by_cases hk : k = 0
  · subst hk
    have hn : news = [] := List.length_eq_zero_iff.1 (by simpa using hl)
    subst hn
    refine ⟨v,m,?_,by simpa using h,fun _ _ _ => rfl,Nat.le_refl _,fun i hi => .inl hi⟩
    unfold appendL
    simp only [hc,hx]
    rcases h with ⟨nl,ex,z,rfl,_⟩ | ⟨b,rfl,_⟩
    · simp [nbeq]
    · simp [nbeq,nble]
  · have h4 : (Nat.ble ((n + k) * bytes) roomMost && Nat.ble (n + k) roomMost && news.all LV.scalar) = true := by
      simp only [roomMost,Bool.and_eq_true,Nat.ble_eq]; exact ⟨hr,hsc⟩
    have h5 : Nat.beq k 0 = false := by rw [nbeq]; simpa using hk
    have hL : (cs ++ news).length = (n + k) * sz := by rw [List.length_append,hlen,hl,Nat.add_mul]
    rcases h with ⟨nl,ex,z,rfl,hnl,hz,_⟩ | ⟨b,rfl,h1,_,h3⟩
    · refine ⟨.sl m.length 0 (n + k) (n + k) sz sz ((n + k) * sz),m ++ [⟨cs ++ news,true⟩],?_,.inr ⟨m.length,rfl,by simp,hL,by omega⟩,fun i hi _ => by rw [List.getElem?_append_left hi],by simp,fun i hi => .inr (by cases hi; omega)⟩
      unfold appendL
      have hnl' : (nl || ex) = true := by rcases hnl with rfl | rfl <;> simp
      simp only [hc,hx,h5,h4,hnl',newSl,cond_false,cond_true]
    · have h6 : Nat.ble (n + k) n = false := by rw [nble]; simp; omega
      have h7 : Nat.blt (n * sz) ((n + k) * sz) = true := by rw [nblt,decide_eq_true_eq]; exact Nat.mul_lt_mul_of_pos_right (by omega) hsz
      have h8 : Nat.beq sz 0 = false := by rw [nbeq]; simp; omega
      have hb : b < m.length := by rw [List.getElem?_eq_some_iff] at h1; exact h1.1
      refine ⟨.sl b 0 (n + k) (n + k) sz sz ((n + k) * sz),m.set b ⟨cs ++ news,true⟩,?_,.inr ⟨b,rfl,by simp [hb],hL,by omega⟩,fun i hi hne => ?_,by simp,fun i hi => .inl hi⟩
      · unfold appendL
        simp only [hc,hx,h5,h4,h1,h6,h7,h8,show Nat.blt 0 (n * sz) = true by rw [nblt,decide_eq_true_eq]; exact Nat.mul_pos (by omega) hsz,cond_false,cond_true]
        simp [nbeq]
      · have : ¬ b = i := fun e => hne e
        simp [List.getElem?_set,this]
omit [Glo] in
theorem Lst.view {m : LMem} {v : LV} {sz n : Nat} {cs : List LV} (h : Lst m v sz n cs) (hp : LV.pures cs = true) (hsz : 0 < sz) : ∃ a b c ids,(n = 0 ∨ c = sz) ∧ (a = true → n = 0) ∧ (∀ i ∈ ids,isBlk v i) ∧ ∀ k,view (k + 3) m v = some (.lst a b c n cs,ids) := by
  rcases h with ⟨nl,ex,z,rfl,_,hz,hn,_⟩ | ⟨b,rfl,h1,h2,h3⟩
  · exact ⟨nl,ex,z,[],hz,hn,by simp,fun k => by simp only [Go.Am.view]⟩
  · refine ⟨false,Nat.beq sz 0 && Nat.beq n n,sz,[b],.inr rfl,by simp,by simp [isBlk],fun k => ?_⟩
    have := view_slc k m b 0 n (n * sz) sz n sz cs true h1 (by rw [List.drop_zero,List.take_of_length_le (by omega)]; exact hp) h2 (by omega) (Nat.le_refl _)
    rw [List.drop_zero,List.take_of_length_le (by omega)] at this
    exact this
omit [Glo] in
theorem freeze_get (i : Nat) : ∀ (ids : List Nat) (m : LMem),i ∉ ids → (freeze ids m)[i]? = m[i]?
  | [],m,_ => by rw [freeze_nil]
  | j :: r,m,h => by
    rw [freeze,freeze_get i r _ (fun c => h (by simp [c])),freeze1]
    have : ¬ j = i := fun e => h (by simp [e])
    split
    · simp [List.getElem?_set,this]
    · rfl
omit [Glo] in
theorem freeze_length : ∀ (ids : List Nat) (m : LMem),(freeze ids m).length = m.length
  | [],m => by rw [freeze_nil]
  | j :: r,m => by
    rw [freeze,freeze_length r,freeze1]
    split <;> simp
theorem call_shown {C : LProg} {f : Nat} {lf : LFunc} (hC : C f = some lf) (hm : lf.mode = .P) {args vs : List LV} {ids : List Nat} {m : LMem} (hv : views m args = some (vs,ids)) (hp : LV.pures vs = true) {v : LV} (hc : clF C f vs [] = some (.P,v,[])) : ∃ m',clF C f args m = some (.P,v,m') ∧ (∀ i,i ∉ ids → m'[i]? = m[i]?) ∧ m'.length = m.length := by
  rw [clF_eq,hC] at hc ⊢
  simp only [callMode,hm,views_pures [] vs hp,hv] at hc ⊢
  split at hc
  · rename_i v1 m1 hr
    split at hc
    · rename_i v2 ids1 hv2
      simp only [Option.some.injEq,Prod.mk.injEq] at hc
      obtain ⟨_,rfl,_⟩ := hc
      refine ⟨_,rfl,fun i hi => ?_,?_⟩
      · cases (ids.isEmpty || (v2.plain || newIds v1 m1 ids1))
        · exact freeze_get i ids m hi
        · rfl
      · cases (ids.isEmpty || (v2.plain || newIds v1 m1 ids1))
        · exact freeze_length ids m
        · rfl
    · cases hc
  · cases hc
end Go.Am.G
