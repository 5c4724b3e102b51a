import Derived.Test.YtoppeojgadbjeaaLm10
set_option linter.unusedVariables false
set_option linter.unusedSimpArgs false
namespace Go.Am.Top
def leftN (n done : Nat) : Nat := (List.range n).countP fun f => !done.testBit f
theorem leftN_succ (n done : Nat) : leftN (n + 1) done = leftN n done + if done.testBit n then 0 else 1 := by
  unfold leftN
  rw [List.range_succ,List.countP_append]
  cases h : done.testBit n <;> simp [h]
theorem or_bit (done f i : Nat) : (done ||| 2 ^ f).testBit i = (done.testBit i || decide (f = i)) := by
  rw [Nat.testBit_or,Nat.testBit_two_pow]
theorem leftN_next (done f : Nat) (hb : done.testBit f = false) : ∀ n,f < n → leftN n (done ||| 2 ^ f) + 1 = leftN n done
  | 0,h => by omega
  | n + 1,h => by
    rw [leftN_succ,leftN_succ,or_bit]
    by_cases c : f = n
    · subst c
      have : ∀ k,k ≤ f → leftN k (done ||| 2 ^ f) = leftN k done := by
        intro k
        induction k with
        | zero => intro _; rfl
        | succ k ih =>
          intro hk
          rw [leftN_succ,leftN_succ,or_bit,ih (by omega)]
          simp [show ¬ f = k by omega]
      rw [this f (Nat.le_refl _),hb]
      simp
    · have := leftN_next done f hb n (by omega)
      simp only [c,decide_false,Bool.or_false]
      omega
theorem leftN_zero (n done : Nat) (hd : done < 2 ^ n) : leftN n done = 0 ↔ done = 2 ^ n - 1 := by
  constructor
  · intro h
    apply Nat.eq_of_testBit_eq
    intro i
    rw [Nat.testBit_two_pow_sub_one]
    by_cases c : i < n
    · unfold leftN at h
      rw [List.countP_eq_zero] at h
      have := h i (List.mem_range.2 c)
      simpa [c] using this
    · rw [Nat.testBit_lt_two_pow (Nat.lt_of_lt_of_le hd (Nat.pow_le_pow_right (by omega) (by omega)))]
      simp [c]
  · rintro rfl
    unfold leftN
    rw [List.countP_eq_zero]
    intro i hi
    simp [Nat.testBit_two_pow_sub_one,List.mem_range.1 hi]
theorem leftN_pos {n d : Nat} (h : leftN n d ≠ 0) : ∃ x,x < n ∧ d.testBit x = false := by
  unfold leftN at h
  have h : 0 < (List.range n).countP fun f => !d.testBit f := by omega
  rw [List.countP_pos_iff] at h
  obtain ⟨x,hx,hb⟩ := h
  exact ⟨x,List.mem_range.1 hx,by simpa using hb⟩
theorem leftN_le (n done : Nat) : leftN n done ≤ n := by
  have := List.countP_le_length (p := fun f => !done.testBit f) (l := List.range n)
  rw [List.length_range] at this
  exact this
theorem next_lt (done f n : Nat) (hd : done < 2 ^ n) (hf : f < n) : done ||| 2 ^ f < 2 ^ n := Nat.or_lt_two_pow hd (Nat.pow_lt_pow_right (by omega) hf)
theorem next_gt (done f : Nat) (hb : done.testBit f = false) : done < done ||| 2 ^ f := by
  have h1 : done ≤ done ||| 2 ^ f := Nat.left_le_or
  have h2 : done ||| 2 ^ f ≠ done := fun c => by
    have := or_bit done f f
    rw [c,hb] at this
    simp at this
  omega
theorem foldl_ext {α β : Type} (g h : β → α → β) : ∀ (l : List α) (b : β),(∀ b,∀ a ∈ l,g b a = h b a) → l.foldl g b = l.foldl h b
  | [],b,_ => rfl
  | a :: l,b,e => by
    rw [List.foldl_cons,List.foldl_cons,e b a (by simp)]
    exact foldl_ext g h l _ fun b a ha => e b a (by simp [ha])
def begB (d F : Nat) : Bool := decide (F &&& d ≠ 0) && decide (F &&& d ≠ F)
def mayB (fs : List Nat) (d x : Nat) : Bool := !d.testBit x && !(fs.any fun F => begB d F && !F.testBit x)
def estep (may : Nat → Nat → Bool) (go : Nat → Nat) (d s x : Nat) : Nat := if may d x then s + go (d ||| 2 ^ x) else s
def enU (may : Nat → Nat → Bool) (n : Nat) : Nat → Nat → Nat
  | 0,_ => 1
  | u + 1,d => (List.range n).foldl (estep may (enU may n u) d) 0
def en (may : Nat → Nat → Bool) (n d : Nat) : Nat := enU may n (leftN n d) d
theorem en_all (may : Nat → Nat → Bool) (n : Nat) : en may n (2 ^ n - 1) = 1 := by
  unfold en
  rw [(leftN_zero n (2 ^ n - 1) (by have := Nat.two_pow_pos n; omega)).2 rfl]
  rfl
theorem en_eq (may : Nat → Nat → Bool) (n : Nat) (hm : ∀ d x,may d x = true → d.testBit x = false) (d : Nat) (hd : d < 2 ^ n - 1) : en may n d = (List.range n).foldl (estep may (en may n) d) 0 := by
  have h0 : leftN n d ≠ 0 := fun c => by have := (leftN_zero n d (by omega)).1 c; omega
  obtain ⟨u,hu⟩ : ∃ u,leftN n d = u + 1 := ⟨leftN n d - 1,by omega⟩
  rw [en,hu,enU]
  apply foldl_ext
  intro s x hx
  have hx := List.mem_range.1 hx
  unfold estep
  cases hb : may d x
  · simp
  · have := leftN_next d x (hm _ _ hb) n hx
    have e : leftN n (d ||| 2 ^ x) = u := by omega
    simp only [en,e]
theorem efold_le (may : Nat → Nat → Bool) (go : Nat → Nat) (d B : Nat) (hgo : ∀ d,go d ≤ B) : ∀ (l : List Nat) (s : Nat),l.foldl (estep may go d) s ≤ s + l.length * B
  | [],s => by simp
  | x :: l,s => by
    have ih := efold_le may go d B hgo l (estep may go d s x)
    have h1 : estep may go d s x ≤ s + B := by
      unfold estep
      have := hgo (d ||| 2 ^ x)
      split <;> omega
    rw [List.foldl_cons,List.length_cons,Nat.add_mul]
    omega
theorem enU_le (may : Nat → Nat → Bool) (n : Nat) (hn : n ≤ 7) : ∀ (u d : Nat),enU may n u d ≤ 7 ^ u
  | 0,d => by simp [enU]
  | u + 1,d => by
    have h := efold_le may (enU may n u) d (7 ^ u) (fun d => enU_le may n hn u d) (List.range n) 0
    rw [enU]
    simp only [List.length_range,Nat.zero_add] at h
    refine Nat.le_trans h ?_
    rw [Nat.pow_succ,Nat.mul_comm]
    exact Nat.mul_le_mul_left _ hn
theorem en_le (may : Nat → Nat → Bool) (n : Nat) (hn : n ≤ 7) (d : Nat) : en may n d ≤ 823543 := by
  refine Nat.le_trans (enU_le may n hn (leftN n d) d) ?_
  have h2 : 7 ^ leftN n d ≤ 7 ^ 7 := Nat.pow_le_pow_right (by omega) (Nat.le_trans (leftN_le n d) hn)
  have h3 : (7 : Nat) ^ 7 = 823543 := by decide
  rwa [h3] at h2
theorem efold_ge (may : Nat → Nat → Bool) (go : Nat → Nat) (d : Nat) : ∀ (l : List Nat) (s : Nat),s ≤ l.foldl (estep may go d) s
  | [],s => Nat.le_refl _
  | x :: l,s => Nat.le_trans (by unfold estep; split <;> omega) (efold_ge may go d l _)
theorem efold_pos (may : Nat → Nat → Bool) (go : Nat → Nat) (d x : Nat) (hm : may d x = true) (hg : 0 < go (d ||| 2 ^ x)) : ∀ (l : List Nat) (s : Nat),x ∈ l → 0 < l.foldl (estep may go d) s
  | [],s,h => by simp at h
  | y :: l,s,h => by
    rw [List.foldl_cons]
    rcases List.mem_cons.1 h with rfl | h
    · refine Nat.lt_of_lt_of_le ?_ (efold_ge may go d l _)
      unfold estep
      rw [if_pos hm]
      omega
    · exact efold_pos may go d x hm hg l _ h
def NA (F G : Nat) : Prop := (∀ x,F.testBit x = true → G.testBit x = true) ∨ (∀ x,G.testBit x = true → F.testBit x = true) ∨ ∀ x,F.testBit x = true → G.testBit x = false
theorem beg_iff (d F : Nat) : begB d F = true ↔ (∃ x,F.testBit x = true ∧ d.testBit x = true) ∧ ∃ x,F.testBit x = true ∧ d.testBit x = false := by
  unfold begB
  simp only [Bool.and_eq_true,decide_eq_true_eq,ne_eq]
  refine and_congr ⟨fun h => ?_,fun ⟨x,h1,h2⟩ c => ?_⟩ ⟨fun h => ?_,fun ⟨x,h1,h2⟩ c => ?_⟩
  · refine Classical.byContradiction fun hc => h (Nat.eq_of_testBit_eq fun i => ?_)
    rw [Nat.testBit_and,Nat.zero_testBit]
    cases hF : F.testBit i
    · rfl
    · cases hd : d.testBit i
      · rfl
      · exact absurd ⟨i,hF,hd⟩ hc
  · have := congrArg (fun z => z.testBit x) c
    simp [h1,h2] at this
  · refine Classical.byContradiction fun hc => h (Nat.eq_of_testBit_eq fun i => ?_)
    rw [Nat.testBit_and]
    cases hF : F.testBit i
    · rfl
    · cases hd : d.testBit i
      · exact absurd ⟨i,hF,hd⟩ hc
      · rfl
  · have := congrArg (fun z => z.testBit x) c
    simp [h1,h2] at this
def Inv (fs : List Nat) (d : Nat) : Prop := ∀ F ∈ fs,∀ G ∈ fs,begB d F = true → begB d G = true → ∃ x,F.testBit x = true ∧ G.testBit x = true
theorem least_of {d : Nat} : ∀ (L : List Nat),L ≠ [] → (∀ F ∈ L,∀ G ∈ L,(∀ x,F.testBit x = true → G.testBit x = true) ∨ ∀ x,G.testBit x = true → F.testBit x = true) → ∃ M ∈ L,∀ G ∈ L,∀ x,M.testBit x = true → G.testBit x = true
  | [],h,_ => absurd rfl h
  | [F],_,_ => ⟨F,by simp,by simp⟩
  | F :: G :: L,_,h => by
    obtain ⟨M,hM,hl⟩ := least_of (d := d) (G :: L) (by simp) fun A hA B hB => h A (by simp [List.mem_cons.1 hA]) B (by simp [List.mem_cons.1 hB])
    rcases h F (by simp) M (List.mem_cons_of_mem _ hM) with c | c
    · refine ⟨F,by simp,fun H hH => ?_⟩
      rcases List.mem_cons.1 hH with rfl | hH
      · exact fun x hx => hx
      · exact fun x hx => hl H hH x (c x hx)
    · refine ⟨M,List.mem_cons_of_mem _ hM,fun H hH => ?_⟩
      rcases List.mem_cons.1 hH with rfl | hH
      · exact c
      · exact hl H hH
theorem goes_on (fs : List Nat) (n : Nat) (hn : ∀ F ∈ fs,F < 2 ^ n) (hna : ∀ F ∈ fs,∀ G ∈ fs,NA F G) (d : Nat) (hI : Inv fs d) (hl : leftN n d ≠ 0) : ∃ x,x < n ∧ mayB fs d x = true ∧ Inv fs (d ||| 2 ^ x) := by
  have key : ∃ x,x < n ∧ d.testBit x = false ∧ ∀ G ∈ fs,begB d G = true → G.testBit x = true := by
    by_cases hL : fs.filter (begB d) = []
    · obtain ⟨x,hx,hb⟩ := leftN_pos hl
      refine ⟨x,hx,hb,fun G hG hb => ?_⟩
      have : G ∈ fs.filter (begB d) := List.mem_filter.2 ⟨hG,hb⟩
      rw [hL] at this
      simp at this
    · obtain ⟨M,hM,hle⟩ := least_of (d := d) (fs.filter (begB d)) hL fun F hF G hG => by
        obtain ⟨hF1,hF2⟩ := List.mem_filter.1 hF
        obtain ⟨hG1,hG2⟩ := List.mem_filter.1 hG
        rcases hna F hF1 G hG1 with c | c | c
        · exact .inl c
        · exact .inr c
        · obtain ⟨x,h1,h2⟩ := hI F hF1 G hG1 hF2 hG2
          rw [c x h1] at h2
          cases h2
      obtain ⟨hM1,hM2⟩ := List.mem_filter.1 hM
      obtain ⟨_,x,hx1,hx2⟩ := (beg_iff d M).1 hM2
      refine ⟨x,Nat.lt_of_not_le fun c => ?_,hx2,fun G hG hb => hle G (List.mem_filter.2 ⟨hG,hb⟩) x hx1⟩
      have := Nat.testBit_lt_two_pow (Nat.lt_of_lt_of_le (hn M hM1) (Nat.pow_le_pow_right (by omega) c))
      rw [hx1] at this
      cases this
  obtain ⟨x,hx,hb,ha⟩ := key
  have all : ∀ G ∈ fs,begB (d ||| 2 ^ x) G = true → G.testBit x = true := by
    intro G hG hg
    obtain ⟨⟨y,hy1,hy2⟩,z,hz1,hz2⟩ := (beg_iff _ _).1 hg
    rw [or_bit] at hy2 hz2
    simp only [Bool.or_eq_true,decide_eq_true_eq,Bool.or_eq_false_iff,decide_eq_false_iff_not] at hy2 hz2
    rcases hy2 with c | rfl
    · exact ha G hG ((beg_iff _ _).2 ⟨⟨y,hy1,c⟩,z,hz1,hz2.1⟩)
    · exact hy1
  refine ⟨x,hx,?_,fun F hF G hG hf hg => ⟨x,all F hF hf,all G hG hg⟩⟩
  unfold mayB
  simp only [hb,Bool.not_false,Bool.true_and,Bool.not_eq_true',List.any_eq_false,Bool.and_eq_true,not_and,Bool.not_eq_true]
  intro F hF hf
  rw [ha F hF hf]
  simp
theorem mayB_bit {fs : List Nat} : ∀ d x,mayB fs d x = true → d.testBit x = false := by
  intro d x h
  unfold mayB at h
  simp only [Bool.and_eq_true,Bool.not_eq_true'] at h
  exact h.1
theorem enU_pos (fs : List Nat) (n : Nat) (hn : ∀ F ∈ fs,F < 2 ^ n) (hna : ∀ F ∈ fs,∀ G ∈ fs,NA F G) : ∀ (u d : Nat),leftN n d = u → Inv fs d → 0 < enU (mayB fs) n u d
  | 0,d,_,_ => by simp [enU]
  | u + 1,d,hu,hI => by
    obtain ⟨x,hx,hm,hI'⟩ := goes_on fs n hn hna d hI (by omega)
    have hl := leftN_next d x (mayB_bit _ _ hm) n hx
    rw [enU]
    exact efold_pos _ _ d x hm (enU_pos fs n hn hna u _ (by omega) hI') _ _ (List.mem_range.2 hx)
theorem en_pos (fs : List Nat) (n : Nat) (hn : ∀ F ∈ fs,F < 2 ^ n) (hna : ∀ F ∈ fs,∀ G ∈ fs,NA F G) : 0 < en (mayB fs) n 0 := by
  refine enU_pos fs n hn hna _ 0 rfl fun F _ G _ h => ?_
  obtain ⟨⟨x,_,hx⟩,_⟩ := (beg_iff _ _).1 h
  simp at hx
end Go.Am.Top
set_option linter.unusedVariables false
set_option linter.unusedSimpArgs false
namespace Go.Am.Top
def od (T : Nat → Nat) (n : Nat) : Nat → List Nat
  | 0 => []
  | j + 1 => od T n j ++ (List.range n).filter fun x => decide (T x + j = 31)
theorem mem_od (T : Nat → Nat) (n : Nat) : ∀ (j x : Nat),j ≤ 32 → (x ∈ od T n j ↔ x < n ∧ T x ≤ 31 ∧ 31 < T x + j)
  | 0,x,_ => by simp only [od,List.not_mem_nil,false_iff]; omega
  | j + 1,x,hj => by
    rw [od,List.mem_append,mem_od T n j x (by omega),List.mem_filter,List.mem_range,decide_eq_true_eq]
    omega
theorem pre_od (T : Nat → Nat) (n j : Nat) : ∀ i,∃ B,od T n (j + i) = od T n j ++ B
  | 0 => ⟨[],by simp⟩
  | i + 1 => by
    obtain ⟨B,hB⟩ := pre_od T n j i
    exact ⟨B ++ (List.range n).filter fun x => decide (T x + (j + i) = 31),by rw [← Nat.add_assoc,od,hB,List.append_assoc]⟩
theorem ahead (T : Nat → Nat) (n w x : Nat) (hw : w ≤ 31) (hx : x < n) (hT : T x ≤ 31) : (od T n 32).idxOf x < (od T n (31 - w)).length ↔ w < T x := by
  obtain ⟨B,hB⟩ := pre_od T n (31 - w) (w + 1)
  rw [show 31 - w + (w + 1) = 32 by omega] at hB
  have hm := mem_od T n (31 - w) x (by omega)
  rw [hB,List.idxOf_append]
  by_cases c : x ∈ od T n (31 - w)
  · rw [if_pos c]
    have := List.idxOf_lt_length_of_mem c
    have := hm.1 c
    omega
  · rw [if_neg c]
    have : ¬ (31 < T x + (31 - w)) := fun h => c (hm.2 ⟨hx,hT,h⟩)
    omega
def lv (T : Nat → Nat) (n w : Nat) : List Nat := (List.range n).filter fun x => decide (w < T x)
def lastN (T : Nat → Nat) (n : Nat) : Nat → Nat
  | 0 => n
  | w + 1 => (lv T n w).length
def addF (T : Nat → Nat) (n w : Nat) : Bool := (decide (0 < (lv T n w).length) && decide ((lv T n w).length < lastN T n w)) || decide (w = 0)
def lvs (T : Nat → Nat) (n : Nat) : Nat → List Nat
  | 0 => []
  | w + 1 => lvs T n w ++ (if addF T n w then [w] else [])
end Go.Am.Top
