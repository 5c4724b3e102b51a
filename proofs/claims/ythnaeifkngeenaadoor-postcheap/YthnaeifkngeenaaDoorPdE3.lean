import Derived.Test.YthnaeifkngeenaaDoorPdE2
import Derived.Test.YthnaeifkngeenaaDoorPdC15
/-
  What functions of chapter 12 compute, by tables 3: plain facts: what is at hand, the first list, parities.
-/
set_option linter.unusedVariables false
set_option linter.unusedSimpArgs false
set_option maxRecDepth 10000
namespace Go.Am.Post
open Go.Am.G

/-! ### What is at hand of a shore by numbers -/
def HB (s : List Int) (h : List Nat) : Prop := h.length = s.length ∧ ∀ v, v < s.length → ∀ u, (h.getD v 0).testBit u = (decide (u < s.length) && nb s v u)
theorem nb_app {s : List Int} {b : Int} {v u : Nat} (hv : v < s.length) (hu : u < s.length) : nb (s ++ [b]) v u = nb s v u := by
  unfold nb
  rw [getD_app hv, getD_app hu]
theorem getD_last {α : Type} (s : List α) (b d : α) : (s ++ [b]).getD s.length d = b := by
  rw [getD_app2 (Nat.le_refl _), Nat.sub_self]; rfl
theorem hb_step {s : List Int} (K : OkS s) {b : Nat} (hb : b < s.length) {h : List Nat} (H : HB s h) : HB (s ++ [(b : Int)]) (hset (h ++ [2 ^ s.length ||| 2 ^ b]) b s.length) := by
  obtain ⟨hl, H⟩ := H
  refine ⟨by rw [hset_length]; simp [hl], fun v hv u => ?_⟩
  rw [List.length_append, List.length_singleton] at hv ⊢
  rw [getD_hset]
  have hlen : (h ++ [2 ^ s.length ||| 2 ^ b]).length = s.length + 1 := by simp [hl]
  have hlast : (s ++ [(b : Int)]).getD s.length 0 = (b : Int) := getD_last s _ 0
  have small : ∀ x, x < s.length → (s.getD x 0 ≠ (s.length : Int)) := fun x hx => by
    by_cases c : x = 0
    · subst c; rw [K.h0]; omega
    · have := K.hi x (by omega) hx; omega
  by_cases e : v = s.length
  · subst e
    rw [if_neg (by omega)]
    have : (h ++ [2 ^ s.length ||| 2 ^ b]).getD s.length 0 = 2 ^ s.length ||| 2 ^ b := by rw [← hl]; exact getD_last h _ 0
    rw [this, Nat.testBit_or, Nat.testBit_two_pow, Nat.testBit_two_pow]
    unfold nb
    rw [hlast]
    by_cases eu : u = s.length
    · subst eu; simp
    · by_cases hu : u < s.length
      · rw [getD_app hu]
        have := small u hu
        rw [Bool.eq_iff_iff]; simp only [Bool.and_eq_true, Bool.or_eq_true, decide_eq_true_eq, Bool.false_eq_true, and_true, true_and]; omega
      · rw [Bool.eq_iff_iff]; simp only [Bool.and_eq_true, Bool.or_eq_true, decide_eq_true_eq, Bool.false_eq_true, and_true, true_and]; omega
  · have hv' : v < s.length := by omega
    have hold : (h ++ [2 ^ s.length ||| 2 ^ b]).getD v 0 = h.getD v 0 := getD_app (by omega)
    have hold2 : (h ++ [2 ^ s.length ||| 2 ^ b]).getD b 0 = h.getD b 0 := getD_app (by omega)
    have key : ((if v = b ∧ b < (h ++ [2 ^ s.length ||| 2 ^ b]).length then (h ++ [2 ^ s.length ||| 2 ^ b]).getD b 0 ||| 2 ^ s.length else (h ++ [2 ^ s.length ||| 2 ^ b]).getD v 0).testBit u) = ((h.getD v 0).testBit u || (decide (v = b) && decide (u = s.length))) := by
      by_cases c : v = b
      · subst c
        rw [if_pos ⟨rfl, by omega⟩, hold2, Nat.testBit_or, Nat.testBit_two_pow]
        have e2 : (s.length = u) ↔ (u = s.length) := ⟨Eq.symm, Eq.symm⟩
        simp [e2]
      · rw [if_neg (by simp [c]), hold]; simp [c]
    rw [key, H v hv' u]
    by_cases eu : u = s.length
    · subst eu
      unfold nb
      rw [hlast, getD_app hv']
      have := small v hv'
      rw [Bool.eq_iff_iff]; simp only [Bool.and_eq_true, Bool.or_eq_true, decide_eq_true_eq, Bool.false_eq_true, and_true, true_and]; omega
    · by_cases hu : u < s.length
      · rw [nb_app hv' hu]
        have e3 : u < s.length + 1 := by omega
        simp [eu, hu, e3]
      · rw [Bool.eq_iff_iff]; simp only [Bool.and_eq_true, Bool.or_eq_true, decide_eq_true_eq, Bool.false_eq_true, and_true, true_and]; omega
theorem hb_loop (bs : List Nat) (d : Nat) : ∀ (i : Nat) (s : List Int) (h : List Nat), 1 ≤ i → s.length = i → i + d ≤ 10 → OkS s → HB s h → HB (shN bs d i s) (haN bs d i h) := by
  induction d with
  | zero => intro i s h _ _ _ _ H; exact H
  | succ d ih =>
    intro i s h h1 hl h10 K H
    rw [shN, haN]
    have hm : bs.getD i 0 % i < i := Nat.mod_lt _ h1
    generalize bs.getD i 0 % i = q at *
    subst hl
    have K2 : OkS (s ++ [(q : Int)]) := by
      have := shN_ok [] 0 s.length s (by omega) rfl (by omega) K
      refine ⟨by simp, by simp; omega, ?_, ?_⟩
      · rw [getD_app K.pos]; exact K.h0
      · intro j j0 hj
        by_cases c : j < s.length
        · rw [getD_app c]; exact K.hi j j0 c
        · have e : j = s.length := by simp at hj; omega
          subst e
          rw [getD_last]
          omega
    exact ih (s.length + 1) _ _ (by omega) (by simp) (by omega) K2 (hb_step K hm H)
theorem hand_eq (n : Nat) (h1 : 1 ≤ n) (h10 : n ≤ 10) (bs : List Nat) : handN n bs = handsV (shoreN n bs) := by
  obtain ⟨K, hl⟩ := shoreN_ok n h1 h10 bs
  have H0 : HB [-1] [1] := by
    refine ⟨rfl, fun v hv u => ?_⟩
    obtain rfl : v = 0 := by simp at hv; omega
    have e : ([1] : List Nat).getD 0 0 = 2 ^ 0 := rfl
    rw [e, Nat.testBit_two_pow]
    unfold nb
    rw [Bool.eq_iff_iff]
    simp
    omega
  have H := hb_loop bs (n - 1) 1 [-1] [1] (by omega) rfl (by omega) ⟨by simp, by simp, rfl, fun j h0 hj => by simp at hj; omega⟩ H0
  change HB (shoreN n bs) (handN n bs) at H
  generalize shoreN n bs = s at *
  obtain ⟨H1, H2⟩ := H
  apply List.ext_getElem (by rw [H1, handsV_length])
  intro i hi hi'
  refine Nat.eq_of_testBit_eq fun u => ?_
  have hv : i < s.length := by rw [handsV_length] at hi'; exact hi'
  have a := H2 i hv u
  have b := hands_bit K hv u
  rw [List.getD_eq_getElem?_getD, List.getElem?_eq_getElem hi] at a
  rw [List.getD_eq_getElem?_getD, List.getElem?_eq_getElem hi'] at b
  simp only [Option.getD_some] at a b
  rw [a, b, Bool.and_comm]

theorem lexI_nc (y : Int) (b : List Int) : lexI [] (y :: b) = -1 := by simp [lexI, preI]
theorem lexI_cn (x : Int) (a : List Int) : lexI (x :: a) [] = 1 := by simp [lexI, preI]
theorem lexI_cc (x y : Int) (a b : List Int) : lexI (x :: a) (y :: b) = if x < y then -1 else if y < x then 1 else lexI a b := by
  unfold lexI
  rw [preI]
  by_cases h : x < y
  · simp [h]
  · by_cases h' : y < x
    · simp [h, h']
    · simp only [h, h', if_false]
      cases preI a b with
      | some r => rfl
      | none => simp
theorem lexI_neg : ∀ a b : List Int, lexI b a = - lexI a b
  | [], [] => rfl
  | [], y :: b => by rw [lexI_nc, lexI_cn]; rfl
  | x :: a, [] => by rw [lexI_nc, lexI_cn]
  | x :: a, y :: b => by
    rw [lexI_cc, lexI_cc]
    by_cases h : x < y
    · rw [if_neg (by omega), if_pos h, if_pos h]; rfl
    · by_cases h' : y < x
      · rw [if_pos h', if_neg h, if_pos h']
      · rw [if_neg h', if_neg h, if_neg h, if_neg h']; exact lexI_neg a b
theorem lexI_self : ∀ a : List Int, lexI a a = 0
  | [] => rfl
  | x :: a => by rw [lexI_cc, if_neg (by omega), if_neg (by omega)]; exact lexI_self a
theorem ci_cons (x : Nat) (r : List Nat) : ci (x :: r) = (x : Int) :: ci r := rfl
theorem ci_nil : ci [] = [] := rfl
def lexLt (a b : List Nat) : Prop := lexI (ci a) (ci b) < 0
theorem lexLt_nc (b : List Nat) (h : b ≠ []) : lexLt [] b := by
  cases b with
  | nil => exact absurd rfl h
  | cons y b => unfold lexLt; rw [ci_nil, ci_cons, lexI_nc]; omega
theorem lexLt_irr (a : List Nat) : ¬ lexLt a a := by unfold lexLt; rw [lexI_self]; omega
theorem lexLt_asym {a b : List Nat} (h : lexLt a b) : ¬ lexLt b a := by unfold lexLt at *; rw [lexI_neg]; omega
/-- The lists are in order. -/
theorem asc_lex (d : Nat) : ∀ i, (asc i d).Pairwise lexLt := by
  induction d with
  | zero => intro i; simp [asc]
  | succ d ih =>
    intro i
    have h := ih (i + 1)
    have hh := asc_head (i + 1) d
    rw [hh] at h
    have ht := (List.pairwise_cons.1 h)
    have hne : ∀ l ∈ (asc (i + 1) d).tail, l ≠ [] := fun l hl e => by
      subst e; exact lexLt_irr [] (ht.1 [] hl)
    show ([] :: ((asc (i + 1) d).map (i :: ·) ++ (asc (i + 1) d).tail)).Pairwise lexLt
    rw [List.pairwise_cons, List.pairwise_append]
    refine ⟨fun l hl => ?_, ?_, ht.2, ?_⟩
    · rcases List.mem_append.1 hl with c | c
      · obtain ⟨r, _, rfl⟩ := List.mem_map.1 c
        exact lexLt_nc _ (by simp)
      · exact lexLt_nc _ (hne l c)
    · rw [List.pairwise_map]
      refine (ih (i + 1)).imp fun {a b} hab => ?_
      unfold lexLt at *
      rw [ci_cons, ci_cons, lexI_cc, if_neg (by omega), if_neg (by omega)]
      exact hab
    · intro a ha b hb
      obtain ⟨r, _, rfl⟩ := List.mem_map.1 ha
      have hm : b ∈ asc (i + 1) d := List.mem_of_mem_tail hb
      cases b with
      | nil => exact absurd rfl (hne [] hb)
      | cons y b =>
        have := (asc_mem d (i + 1) _ hm) y (by simp)
        unfold lexLt
        rw [ci_cons, ci_cons, lexI_cc, if_pos (by omega)]
        omega
theorem find_lex {p : List Nat → Bool} : ∀ {L : List (List Nat)} {w : List Nat}, L.Pairwise lexLt → L.find? p = some w → ∀ l ∈ L, p l = true → l ≠ w → lexLt w l
  | [], w, _, h, l, hl, _, _ => by cases hl
  | a :: r, w, hp, h, l, hl, hpl, hne => by
    rw [List.pairwise_cons] at hp
    rw [List.find?_cons] at h
    cases ha : p a <;> rw [ha] at h
    · rcases List.mem_cons.1 hl with rfl | hl
      · rw [ha] at hpl; cases hpl
      · exact find_lex hp.2 h l hl hpl hne
    · cases h
      rcases List.mem_cons.1 hl with rfl | hl
      · exact absurd rfl hne
      · exact hp.1 l hl
def bets (bet : List Nat → List Nat → Bool) (l : List Nat) : Option (List Nat) → Bool
  | none => true
  | some c => bet l c
/-- The best one, list by list. -/
def pick (good : List Nat → Bool) (bet : List Nat → List Nat → Bool) : List (List Nat) → Option (List Nat) → Option (List Nat)
  | [], b => b
  | l :: r, b => pick good bet r (if good l && bets bet l b then some l else b)
theorem pick_ok (good : List Nat → Bool) (bet : List Nat → List Nat → Bool) (ok : List Nat → Prop) (w : List Nat) (hw : good w = true) (h1 : ∀ l, ok l → good l = true → l ≠ w → bet w l = true) (h2 : ∀ l, ok l → good l = true → bet l w = false) : ∀ (L : List (List Nat)) (b : Option (List Nat)), (∀ l ∈ L, ok l) → (∀ c, b = some c → ok c ∧ good c = true) → (b = some w ∨ w ∈ L) → pick good bet L b = some w
  | [], b, _, _, h => by
    rcases h with h | h
    · exact h
    · cases h
  | l :: r, b, hL, hb, h => by
    show pick good bet r (if good l && bets bet l b then some l else b) = some w
    have hl := hL l (by simp)
    have hr : ∀ x ∈ r, ok x := fun x hx => hL x (by simp [hx])
    by_cases hbw : b = some w
    · subst hbw
      have : (good l && bets bet l (some w)) = false := by
        show (good l && bet l w) = false
        cases hg : good l
        · rfl
        · rw [h2 l hl hg]; rfl
      rw [if_neg (by rw [this]; exact Bool.false_ne_true)]
      exact pick_ok good bet ok w hw h1 h2 r _ hr hb (.inl rfl)
    · have hm : w ∈ l :: r := by rcases h with h | h; exact absurd h hbw; exact h
      by_cases e : l = w
      · have hc : (good l && bets bet l b) = true := by
          rw [e, hw]
          cases b with
          | none => rfl
          | some c =>
            have := hb c rfl
            simp only [bets, h1 c this.1 this.2 (fun e => hbw (by rw [e])), Bool.and_self]
        rw [if_pos hc, e]
        exact pick_ok good bet ok w hw h1 h2 r _ hr (fun c hc => by cases hc; exact ⟨e ▸ hl, hw⟩) (.inl rfl)
      · have hm : w ∈ r := by rcases List.mem_cons.1 hm with h | h; exact absurd h.symm e; exact h
        refine pick_ok good bet ok w hw h1 h2 r _ hr (fun c hc => ?_) (.inr hm)
        split at hc
        · rename_i hcond
          cases hc
          rw [Bool.and_eq_true] at hcond
          exact ⟨hl, hcond.1⟩
        · exact hb c hc
/-- All sets. -/
theorem mask_lt {n : Nat} {M : List Nat} (hM : M ∈ asc 0 n) : maskN M 0 < 2 ^ n := by
  refine Nat.lt_pow_two_of_testBit _ fun i hi => ?_
  rw [maskN_bit]
  have := (mem_asc _ _ _).1 hM
  have hn : i ∉ M := fun c => by have := this.2 i c; omega
  simp [hn]
def sets (n : Nat) : List (List Nat) := (List.range (2 ^ n)).map memL
theorem sets_mem {n : Nat} (h10 : n ≤ 10) (M : List Nat) : M ∈ sets n ↔ M ∈ asc 0 n := by
  unfold sets
  rw [List.mem_map]
  constructor
  · rintro ⟨x, hx, rfl⟩
    exact memL_asc (by simpa using hx)
  · intro h
    exact ⟨maskN M 0, by simpa using mask_lt h, memL_mask h10 h⟩

end Go.Am.Post

/-
  What functions of chapter 12 compute, by tables 4: the law 'PostPacked'.
-/
set_option linter.unusedVariables false
set_option linter.unusedSimpArgs false
set_option maxRecDepth 10000
set_option maxHeartbeats 2000000
namespace Go.Am.Post
open Go.Am.G

/-! ### Lists that functions hand back -/
def RV (l : List Nat) : LV := RLn l
theorem RV_len (l : List Nat) : lenL (RV l) = some l.length := by simp [RV, lenL]
theorem memb_v {x : Nat} (hx : x < 1024) (m : LMem) : clF LP n_law12_members [.int .u64 (x : Int)] m = some (.P, RV (memL x), m) := memb_c hx m
theorem compare_v {a b : List Nat} (ha : a.length ≤ 10) (hb : b.length ≤ 10) (m : LMem) : clF LP n_slices_Compare_int_int [RV a, RV b] m = some (.P, .int .i64 (lexI (ci a) (ci b)), m) :=
  compare_c _ _ _ _ _ _ (ci a) (ci b) (by simp; omega) (by simp; omega) m
theorem same_v {a : List Nat} (ha : a.length ≤ 10) (m : LMem) : clF LP n_law12_same [RV a, RV a] m = some (.P, .bool true, m) :=
  same_refl _ _ _ _ _ _ (ci a) (by simp; omega) m
section
variable (b : Bool) {s : List Int} (K : OkS s) (m : LMem)
include K
theorem few_v : clF LP n_post_Fewest [IL false b 1 s] m = some (.P, .tup [RV (firstS s (fun _ => 1)), .int .i64 0], m) := by
  have h := fewestP_c false b 1 s (by have := K.le; omega) m
  rw [fewV, K.chk, if_pos rfl] at h
  exact h
end
theorem wrapU_succ {n : Nat} (h : n + 1 < 18446744073709551616) : IntKind.u64.wrap ((n : Int) + 1) = ((n + 1 : Nat) : Int) := by
  rw [IntWalk.u64_in _ (by omega)]; simp

end Go.Am.Post


