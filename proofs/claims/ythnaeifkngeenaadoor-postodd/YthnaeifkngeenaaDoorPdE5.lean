import Derived.Test.YthnaeifkngeenaaDoorPdE3
import Derived.Test.YthnaeifkngeenaaDoorPdC17
/-
  What functions of chapter 12 compute, by tables 5: the law 'PostPacked'.
-/
set_option linter.unusedVariables false
set_option linter.unusedSimpArgs false
set_option maxRecDepth 10000
set_option maxHeartbeats 2000000
namespace Go.Am.Post
open Go.Am.G

end Go.Am.Post

/-
  What functions of chapter 12 compute, by tables 6: plain facts of the law 'PostOdd'.
-/
set_option linter.unusedVariables false
set_option linter.unusedSimpArgs false
set_option maxRecDepth 10000
namespace Go.Am.Post
open Go.Am.G

/-! ### The number of lists is odd -/
def par2 (t : Tri Nat) : Prop := (t.m % 2 = 1 ∧ t.r % 2 = 0 ∧ t.w % 2 = 1) ∨ (t.m % 2 = 0 ∧ t.r % 2 = 1 ∧ t.w % 2 = 0)
theorem par2_merge {b o : Tri Nat} (hb : par2 b) (ho : par2 o) : par2 (mergeT b o) := by
  unfold par2 mergeT
  simp only [add_nat, mul_nat]
  rcases hb with ⟨b1, b2, b3⟩ | ⟨b1, b2, b3⟩ <;> rcases ho with ⟨o1, o2, o3⟩ | ⟨o1, o2, o3⟩ <;> simp [Nat.add_mod, Nat.mul_mod, b1, b2, b3, o1, o2, o3]
theorem par2_fold (par : Nat → Nat) : ∀ (k : Nat) (T : Nat → Tri Nat), (∀ v, par2 (T v)) → ∀ v, par2 (foldT par k T v)
  | 0, T, h => h
  | k + 1, T, h => par2_fold par k _ fun v => by
    unfold setT
    split
    · exact par2_merge (h _) (h _)
    · exact h v
theorem gs_odd {s : List Int} (K : OkS s) : (gs s).length % 2 = 1 := by
  obtain ⟨n, hn⟩ : ∃ n, s.length = n + 1 := ⟨s.length - 1, by have := K.pos; omega⟩
  have h := whole_sum (K := Nat) (par s) (par_lt K) (fun _ => (1 : Nat)) (fun _ => false) (fun _ => false) n
  have e2 : ∀ S k, costN (fun _ => (1 : Nat)) S k = 1 := by
    intro S k
    unfold costN
    induction k with
    | zero => rfl
    | succ k ih => simp only [prodN, ih]; split <;> rfl
  have e : sumL (K := Nat) (fun S => if allN (okS (par s) (fun _ => false) (fun _ => false) S) (n + 1) then costN (fun _ => (1 : Nat)) S (n + 1) else SR.zero) (asc 0 (n + 1)) = (gs s).length := by
    rw [gs_dom K, ← sum_count, hn]
    refine sumL_congr _ _ _ fun S _ => ?_
    rw [e2]; rfl
  rw [e, add_nat] at h
  have hp := par2_fold (par s) n (startT (fun _ => (1 : Nat)) (fun _ => false) (fun _ => false)) (fun v => .inl ⟨rfl, rfl, rfl⟩) 0
  rcases hp with ⟨h1, h2, h3⟩ | ⟨h1, h2, h3⟩ <;> omega

/-! ### All sets, and all lists -/
theorem asc_nodup (n : Nat) : (asc 0 n).Nodup := (asc_lex n 0).imp fun h e => by subst e; exact lexLt_irr _ h
theorem memL_inj {x y : Nat} (hx : x < 1024) (hy : y < 1024) (e : memL x = memL y) : x = y := by rw [← mask_mem hx, e, mask_mem hy]
theorem sets_nodup {n : Nat} (h : n ≤ 10) : (sets n).Nodup := by
  unfold sets
  rw [List.Nodup, List.pairwise_map]
  refine List.Pairwise.imp_of_mem (fun {a b} ha hb hab e => ?_) (List.pairwise_lt_range (n := 2 ^ n))
  have := pow_1024 h
  rw [List.mem_range] at ha hb
  have := memL_inj (by omega) (by omega) e
  omega
theorem sets_perm {n : Nat} (h : n ≤ 10) : (sets n).Perm (asc 0 n) := (List.perm_ext_iff_of_nodup (sets_nodup h) (asc_nodup n)).2 (sets_mem h)
theorem bit_mem {x : Nat} (hx : x < 1024) (i : Nat) : i ∈ memL x ↔ x.testBit i = true := by
  rw [memL_mem]
  constructor
  · exact fun h => h.2
  · intro h
    refine ⟨?_, h⟩
    by_cases c : i < 10
    · exact c
    · have : x < 2 ^ i := Nat.lt_of_lt_of_le hx (Nat.pow_le_pow_right (n := 2) (by omega) (show 10 ≤ i by omega))
      rw [Nat.testBit_lt_two_pow this] at h; cases h

/-! ### What the loop finds -/
structure Od where
  c : Nat
  w : Nat
  f : Nat
  a : Nat
  n : Nat
def Od.step (all k x : Nat) (t : Od) : Od :=
  if k < t.f then ⟨t.c + 1, 1, k, all &&& x, andN all x⟩ else if k = t.f then ⟨t.c + 1, t.w + 1, t.f, t.a &&& x, andN t.n x⟩ else ⟨t.c + 1, t.w, t.f, t.a, t.n⟩
def od (s : List Int) : Nat → Od
  | 0 => ⟨0, 0, 99, 0, 0⟩
  | x + 1 => if grdB s (memL x) then (od s x).step (2 ^ s.length - 1) (memL x).length x else od s x
structure OdOk (n : Nat) (L : List (List Nat)) (t : Od) : Prop where
  c : t.c = L.length
  f : t.f ≤ 99
  e : L = [] → t.f = 99
  lo : ∀ l ∈ L, t.f ≤ l.length
  hi : L ≠ [] → ∃ l ∈ L, l.length = t.f
  w : t.w = (L.filter fun l => decide (l.length = t.f)).length
  a : L ≠ [] → ∀ i, t.a.testBit i = true ↔ i < n ∧ ∀ l ∈ L, l.length = t.f → i ∈ l
  n : L ≠ [] → ∀ i, t.n.testBit i = true ↔ i < n ∧ ∀ l ∈ L, l.length = t.f → i ∉ l
theorem od_step {n : Nat} {L : List (List Nat)} {t : Od} (H : OdOk n L t) {x : Nat} (hx : x < 1024) (h10n : n ≤ 10) (htn : t.n < 1024) : OdOk n (L ++ [memL x]) (t.step (2 ^ n - 1) (memL x).length x) := by
  have h10 := memL_len x
  have hpn := pow_1024 h10n
  have hf := H.f
  have hne : L ++ [memL x] ≠ [] := by simp
  have hb := bit_mem hx
  have hall : ∀ i, (2 ^ n - 1).testBit i = true ↔ i < n := fun i => by rw [Nat.testBit_two_pow_sub_one, decide_eq_true_eq]
  have hemp : L = [] → (memL x).length < t.f := fun e => by have := H.e e; omega
  generalize memL x = m at *
  unfold Od.step
  by_cases c1 : m.length < t.f
  · rw [if_pos c1]
    have hno : ∀ l ∈ L, ¬ l.length = m.length := fun l hl => by have := H.lo l hl; omega
    refine ⟨by simp [H.c], by show m.length ≤ 99; omega, fun e => absurd e hne, fun l hl => ?_, fun _ => ⟨m, by simp, rfl⟩, ?_, fun _ i => ?_, fun _ i => ?_⟩
    · show m.length ≤ l.length
      rcases List.mem_append.1 hl with h | h
      · have := H.lo l h; omega
      · rw [List.mem_singleton.1 h]; exact Nat.le_refl _
    · show 1 = ((L ++ [m]).filter fun l => decide (l.length = m.length)).length
      rw [List.filter_append, List.filter_eq_nil_iff.2 (fun l hl => by simpa using hno l hl)]
      simp
    · show ((2 ^ n - 1) &&& x).testBit i = true ↔ i < n ∧ ∀ l ∈ L ++ [m], l.length = m.length → i ∈ l
      rw [Nat.testBit_and, Bool.and_eq_true, hall, ← hb]
      constructor
      · rintro ⟨h1, h2⟩
        refine ⟨h1, fun l hl e => ?_⟩
        rcases List.mem_append.1 hl with h | h
        · exact absurd e (hno l h)
        · rw [List.mem_singleton.1 h]; exact h2
      · exact fun h => ⟨h.1, h.2 m (by simp) rfl⟩
    · show (andN (2 ^ n - 1) x).testBit i = true ↔ i < n ∧ ∀ l ∈ L ++ [m], l.length = m.length → i ∉ l
      rw [andN_bit _ _ _ (by omega), Bool.and_eq_true, hall, Bool.not_eq_true', ← Bool.not_eq_true, ← hb]
      constructor
      · rintro ⟨h1, h2⟩
        refine ⟨h1, fun l hl e => ?_⟩
        rcases List.mem_append.1 hl with h | h
        · exact absurd e (hno l h)
        · rw [List.mem_singleton.1 h]; exact h2
      · exact fun h => ⟨h.1, h.2 m (by simp) rfl⟩
  · rw [if_neg c1]
    have hL : L ≠ [] := fun e => c1 (hemp e)
    by_cases c2 : m.length = t.f
    · rw [if_pos c2]
      refine ⟨by simp [H.c], hf, fun e => absurd e hne, fun l hl => ?_, fun _ => ⟨m, by simp, c2⟩, ?_, fun _ i => ?_, fun _ i => ?_⟩
      · show t.f ≤ l.length
        rcases List.mem_append.1 hl with h | h
        · exact H.lo l h
        · rw [List.mem_singleton.1 h]; omega
      · show t.w + 1 = ((L ++ [m]).filter fun l => decide (l.length = t.f)).length
        rw [List.filter_append, H.w]
        simp [c2]
      · show (t.a &&& x).testBit i = true ↔ i < n ∧ ∀ l ∈ L ++ [m], l.length = t.f → i ∈ l
        rw [Nat.testBit_and, Bool.and_eq_true, H.a hL, ← hb]
        constructor
        · rintro ⟨⟨h1, h3⟩, h2⟩
          refine ⟨h1, fun l hl e => ?_⟩
          rcases List.mem_append.1 hl with h | h
          · exact h3 l h e
          · rw [List.mem_singleton.1 h]; exact h2
        · exact fun h => ⟨⟨h.1, fun l hl => h.2 l (by simp [hl])⟩, h.2 m (by simp) c2⟩
      · show (andN t.n x).testBit i = true ↔ i < n ∧ ∀ l ∈ L ++ [m], l.length = t.f → i ∉ l
        rw [andN_bit _ _ _ (by omega), Bool.and_eq_true, H.n hL, Bool.not_eq_true', ← Bool.not_eq_true, ← hb]
        constructor
        · rintro ⟨⟨h1, h3⟩, h2⟩
          refine ⟨h1, fun l hl e => ?_⟩
          rcases List.mem_append.1 hl with h | h
          · exact h3 l h e
          · rw [List.mem_singleton.1 h]; exact h2
        · exact fun h => ⟨⟨h.1, fun l hl => h.2 l (by simp [hl])⟩, h.2 m (by simp) c2⟩
    · rw [if_neg c2]
      obtain ⟨l0, hl0, e0⟩ := H.hi hL
      refine ⟨by simp [H.c], hf, fun e => absurd e hne, fun l hl => ?_, fun _ => ⟨l0, by simp [hl0], e0⟩, ?_, fun _ i => ?_, fun _ i => ?_⟩
      · show t.f ≤ l.length
        rcases List.mem_append.1 hl with h | h
        · exact H.lo l h
        · rw [List.mem_singleton.1 h]; omega
      · show t.w = ((L ++ [m]).filter fun l => decide (l.length = t.f)).length
        rw [List.filter_append, H.w]
        simp [c2]
      · show t.a.testBit i = true ↔ i < n ∧ ∀ l ∈ L ++ [m], l.length = t.f → i ∈ l
        rw [H.a hL]
        refine and_congr_right fun _ => ⟨fun h l hl e => ?_, fun h l hl => h l (by simp [hl])⟩
        rcases List.mem_append.1 hl with q | q
        · exact h l q e
        · rw [List.mem_singleton.1 q] at e; exact absurd e c2
      · show t.n.testBit i = true ↔ i < n ∧ ∀ l ∈ L ++ [m], l.length = t.f → i ∉ l
        rw [H.n hL]
        refine and_congr_right fun _ => ⟨fun h l hl e => ?_, fun h l hl => h l (by simp [hl])⟩
        rcases List.mem_append.1 hl with q | q
        · exact h l q e
        · rw [List.mem_singleton.1 q] at e; exact absurd e c2
def Gx (s : List Int) (x : Nat) : List (List Nat) := ((List.range x).map memL).filter (grdB s)
theorem od_lt (s : List Int) (h10 : s.length ≤ 10) : ∀ x, x ≤ 1024 → (od s x).c ≤ x ∧ (od s x).w ≤ x + 1 ∧ (od s x).f ≤ 99 ∧ (od s x).a < 1024 ∧ (od s x).n < 1024
  | 0, _ => ⟨Nat.le_refl _, by simp [od], Nat.le_refl _, by simp [od], by simp [od]⟩
  | x + 1, h => by
    have ih := od_lt s h10 x (by omega)
    have hp := pow_1024 h10
    have h1 : ∀ a, a &&& x < 1024 := fun a => Nat.lt_of_le_of_lt Nat.and_le_right (by omega)
    have h2 : ∀ a, a < 1024 → andN a x < 1024 := fun a ha => andN_lt _ _ 10 ha (by omega)
    rw [od]
    split
    · unfold Od.step
      have := memL_len x
      split
      · exact ⟨by show _ + 1 ≤ _; omega, by show 1 ≤ _; omega, by show (memL x).length ≤ 99; omega, h1 _, h2 _ (by omega)⟩
      · split
        · exact ⟨by show _ + 1 ≤ _; omega, by show _ + 1 ≤ _; omega, ih.2.2.1, h1 _, h2 _ ih.2.2.2.2⟩
        · exact ⟨by show _ + 1 ≤ _; omega, by show (od s x).w ≤ _; omega, ih.2.2.1, ih.2.2.2.1, ih.2.2.2.2⟩
    · exact ⟨by omega, by omega, ih.2.2.1, ih.2.2.2.1, ih.2.2.2.2⟩
theorem od_ok (s : List Int) (h10 : s.length ≤ 10) : ∀ x, x ≤ 1024 → OdOk s.length (Gx s x) (od s x)
  | 0, _ => { c := rfl, f := Nat.le_refl _, e := (fun _ => rfl), lo := (fun l hl => by cases hl), hi := (fun h => absurd rfl h), w := rfl, a := (fun h => absurd rfl h), n := (fun h => absurd rfl h) }
  | x + 1, h => by
    have ih := od_ok s h10 x (by omega)
    have e : Gx s (x + 1) = Gx s x ++ (if grdB s (memL x) then [memL x] else []) := by
      unfold Gx
      rw [List.range_succ, List.map_append, List.filter_append]
      congr 1
      cases hg : grdB s (memL x) <;> simp [hg]
    rw [e, od]
    cases hg : grdB s (memL x)
    · simpa using ih
    · simp only [if_true]
      exact od_step ih (by omega) h10 (od_lt s h10 x (by omega)).2.2.2.2

/-! ### The end -/
section
variable {s : List Int} (K : OkS s)
include K
theorem gx_perm : (Gx s (2 ^ s.length)).Perm (gs s) := (sets_perm K.le).filter _
theorem gx_mem (l : List Nat) : l ∈ Gx s (2 ^ s.length) ↔ l ∈ gs s := (gx_perm K).mem_iff
theorem gx_ne : Gx s (2 ^ s.length) ≠ [] := fun e => by
  obtain ⟨_, l, hl, _⟩ := few_min K
  rw [← gx_mem K, e] at hl; cases hl
theorem od_end : OdOk s.length (Gx s (2 ^ s.length)) (od s (2 ^ s.length)) := od_ok s K.le _ (pow_1024 K.le)
theorem od_few : (od s (2 ^ s.length)).f = bestC s (fun _ => 1) := by
  obtain ⟨h1, l, hl, e⟩ := few_min K
  have h2 := (od_end K).lo l ((gx_mem K l).2 hl)
  obtain ⟨l2, hl2, e2⟩ := (od_end K).hi (gx_ne K)
  have h3 := h1 l2 ((gx_mem K l2).1 hl2)
  omega
theorem small_gs : smallS s = (gs s).filter (fun l => decide (l.length = bestC s (fun _ => 1))) := by
  rw [gs_dom K, List.filter_filter, smallS]
  refine List.filter_congr fun S _ => ?_
  rw [goodC, cost_one, Bool.and_comm]
theorem small_mem (l : List Nat) : l ∈ smallS s ↔ l ∈ Gx s (2 ^ s.length) ∧ l.length = (od s (2 ^ s.length)).f := by
  rw [small_gs K, List.mem_filter, gx_mem K, od_few K, decide_eq_true_eq]
theorem od_count : (od s (2 ^ s.length)).c = cntV s := by
  rw [(od_end K).c, (gx_perm K).length_eq, cntV, if_pos K.chk]
theorem od_ways : (od s (2 ^ s.length)).w = wayV s := by
  rw [(od_end K).w, wayV, if_pos K.chk, small_gs K, od_few K]
  exact ((gx_perm K).filter _).length_eq
theorem od_always : memL (od s (2 ^ s.length)).a = askV s (fun _ => 0) (fun x => x) := by
  rw [askV, if_pos K.chk, always_eq K]
  have hlt := (od_lt s K.le _ (pow_1024 K.le)).2.2.2.1
  refine up_ext (memL_up _) (up_filter _ (up_range' _ _)) fun i => ?_
  rw [bit_mem hlt, (od_end K).a (gx_ne K), oftL, List.mem_filter, decide_eq_true_eq, hasN, List.length_filter_eq_length_iff]
  simp only [decide_eq_true_eq, List.mem_range'_1, Nat.zero_le, true_and, Nat.zero_add]
  refine and_congr_right fun _ => ⟨fun h l hl => ?_, fun h l hl e => h l ((small_mem K l).2 ⟨hl, e⟩)⟩
  have := (small_mem K l).1 hl
  exact h l this.1 this.2
theorem od_never : memL (od s (2 ^ s.length)).n = askV s (fun x => x) (fun _ => 0) := by
  rw [askV, if_pos K.chk, never_eq K]
  have hlt := (od_lt s K.le _ (pow_1024 K.le)).2.2.2.2
  refine up_ext (memL_up _) (up_filter _ (up_range' _ _)) fun i => ?_
  rw [bit_mem hlt, (od_end K).n (gx_ne K), oftL, List.mem_filter, decide_eq_true_eq, hasN, List.length_eq_zero_iff, List.filter_eq_nil_iff]
  simp only [decide_eq_true_eq, List.mem_range'_1, Nat.zero_le, true_and, Nat.zero_add]
  refine and_congr_right fun _ => ⟨fun h l hl => ?_, fun h l hl e => h l ((small_mem K l).2 ⟨hl, e⟩)⟩
  have := (small_mem K l).1 hl
  exact h l this.1 this.2
end
end Go.Am.Post

/-
  What functions of chapter 12 compute, by tables 7: the law 'PostOdd'.
-/
set_option linter.unusedVariables false
set_option linter.unusedSimpArgs false
set_option maxRecDepth 10000
set_option maxHeartbeats 2000000
namespace Go.Am.Post
open Go.Am.G

section
variable (b : Bool) {s : List Int} (K : OkS s) (m : LMem)
include K
theorem count_v : clF LP n_post_Count [IL false b 1 s] m = some (.P, .tup [.int .i64 (cntV s : Int), .int .i64 0], m) := by
  have h := countP_c false b 1 s (by have := K.le; omega) m
  rw [K.chk] at h
  exact h
theorem ways_v : clF LP n_post_Ways [IL false b 1 s] m = some (.P, .tup [.int .i64 (wayV s : Int), .int .i64 0], m) := by
  have h := waysP_c false b 1 s (by have := K.le; omega) m
  rw [K.chk] at h
  exact h
theorem always_v : clF LP n_post_Always [IL false b 1 s] m = some (.P, .tup [RV (askV s (fun _ => 0) (fun x => x)), .int .i64 0], m) := by
  have h := alwaysP_c false b 1 s (by have := K.le; omega) m
  rw [K.chk] at h
  exact h
theorem never_v : clF LP n_post_Never [IL false b 1 s] m = some (.P, .tup [RV (askV s (fun x => x) (fun _ => 0)), .int .i64 0], m) := by
  have h := neverP_c false b 1 s (by have := K.le; omega) m
  rw [K.chk] at h
  exact h
end
theorem odd_loop (b dd : Bool) {s : List Int} (K : OkS s) (N : Nat) (hN : N = 2 ^ s.length) (m : LMem) (d : Nat) : ∀ x, x + d = N →
    exF LP law12_PostOdd.L0 [(3, IL false b 1 s), (4, UD dd (handsV s)), (5, .int .i64 ((od s x).c : Int)), (6, .int .i64 ((od s x).w : Int)), (7, .int .i64 ((od s x).f : Int)), (8, .int .u64 ((od s x).a : Int)), (9, .int .u64 ((od s x).n : Int)), (10, .int .u64 ((2 ^ s.length - 1 : Nat) : Int)), (31, .int .u64 (N : Int)), (32, .int .u64 (x : Int))] m =
      some (.exit 0, [(3, IL false b 1 s), (5, .int .i64 ((od s N).c : Int)), (6, .int .i64 ((od s N).w : Int)), (8, .int .u64 ((od s N).a : Int)), (9, .int .u64 ((od s N).n : Int))], m) := by
  have hN2 : N ≤ 1024 := by rw [hN]; exact pow_1024 K.le
  induction d with
  | zero =>
    intro x hx
    obtain rfl : x = N := by omega
    rw [law12_PostOdd.L0_eq]
    simp (maxSteps := 1000000) only [law12_PostOdd.B0, beqT, beqF, exF_seq, exF_region, exF_block, exF_cond, exF_ret, exF_exit, exF_skip, runL, wantL, stepL, evL, evC, LEnv.at, putL, loadFine, loadL, cellsAt, Trk.putNew, Trk.up, Trk.touch, Trk.gives, Trk.calm, Trk.hit, opdsOf, Trk.fresh, LEnv.keep, LEnv.ofFrom, List.map_cons, List.map_nil, nbeq, nble, nblt, ofAV, ofAVs, lenL, bin_add, bin_sub, bin_mul, bin_eql, bin_neq, bin_lss, bin_leq, bin_gtr, bin_geq, natL_nat, natL_zero, natL_one, natL_two, Nat.zero_mul, List.any_cons, List.any_nil, Bool.or_false, Bool.false_or, Bool.true_or, Bool.or_true, Bool.and_true, Bool.true_and, Bool.and_false, Bool.false_and, Bool.not_true, Bool.not_false, Nat.reduceBEq, Nat.reduceEqDiff, decide_true, decide_false, cond_true, cond_false, List.filter_nil, List.filter_cons, Nat.reduceAdd, Nat.reduceLeDiff, reduceCtorEq, List.length_nil, List.length_cons, Nat.mul_one, if_true, if_false, Bool.false_eq_true, eq_self, and_true, true_and, retL, resultsL, resAllL, resOfL, List.append_nil, List.nil_append, List.cons_append, true_or, or_true, false_or, or_false, false_and, and_false, not_true_eq_false, not_false_eq_true, ne_eq, unL, trim_nil, views_pures, LV.pures, LV.pure, freeze, Nat.reduceDiv, Int.reduceEq, Int.reduceLT, Int.reduceLE, Int.natCast_zero, LV.cells, allocL, List.getElem?_cons_zero, List.getElem?_cons_succ, storeL, spliceL, List.take_zero, List.take_succ_cons, List.drop_zero, List.drop_succ_cons, List.drop_nil, List.take_nil, Nat.le_refl, Nat.reduceMul, List.set_cons_zero, List.set_cons_succ, LV.scalar, List.all_cons, List.all_nil, Nat.lt_add_one, Nat.zero_lt_one, Nat.reduceLT, Nat.lt_irrefl, fillL, List.length_append, foldIntL, kind_beq, pures_int, solids_int, plains_int, unders_int, scalars_int, show ¬ ((x : Int) < (x : Int)) by omega]
  | succ d ih =>
    intro x hx
    have hx2 : x < 1024 := by omega
    have hxs : x < 2 ^ s.length := by omega
    have ih := ih (x + 1) (by omega)
    obtain ⟨b1, b2, b3, b4, b5⟩ := od_lt s K.le x (by omega)
    have hpo : 2 ^ s.length - 1 < 1024 := by omega
    have h10 := memL_len x
    have hpc := fun m => pc_c hx2 m
    have hg := fun m => lguards_c dd K hxs m
    have hw := wrapU_succ (n := x) (by omega)
    have hlt : (x : Int) < (N : Int) := by omega
    rw [od] at ih
    rw [law12_PostOdd.L0_eq]
    generalize od s x = t at *
    obtain ⟨c, w, f, a, n⟩ := t
    simp only at b1 b2 b3 b4 b5 ih ⊢
    have hc : IntKind.i64.wrap ((c : Int) + 1) = ((c + 1 : Nat) : Int) := by rw [wrap_in (by omega)]; simp
    have hw1 : IntKind.i64.wrap ((w : Int) + 1) = ((w + 1 : Nat) : Int) := by rw [wrap_in (by omega)]; simp
    have hw0 : IntKind.i64.wrap ((0 : Int) + 1) = ((1 : Nat) : Int) := rfl
    have ha1 := bits_and (a := 2 ^ s.length - 1) (b := x) (by omega) (by omega)
    have ha2 := bits_and (a := a) (b := x) (by omega) (by omega)
    have hn1 := bits_andNot (a := 2 ^ s.length - 1) (b := x) (by omega) (by omega)
    have hn2 := bits_andNot (a := n) (b := x) (by omega) (by omega)
    generalize 2 ^ s.length - 1 = P at *
    generalize (memL x).length = k at *
    generalize UD dd (handsV s) = H at *
    generalize IL false b 1 s = S at *
    cases hgr : grdB s (memL x)
    · rw [hgr] at hg ih
      simp only [if_false, Bool.false_eq_true] at ih
      simp (maxSteps := 1000000) only [law12_PostOdd.B0, beqT, beqF, exF_seq, exF_region, exF_block, exF_cond, exF_ret, exF_exit, exF_skip, runL, wantL, stepL, evL, evC, LEnv.at, putL, loadFine, loadL, cellsAt, Trk.putNew, Trk.up, Trk.touch, Trk.gives, Trk.calm, Trk.hit, opdsOf, Trk.fresh, LEnv.keep, LEnv.ofFrom, List.map_cons, List.map_nil, nbeq, nble, nblt, ofAV, ofAVs, lenL, bin_add, bin_sub, bin_mul, bin_eql, bin_neq, bin_lss, bin_leq, bin_gtr, bin_geq, natL_nat, natL_zero, natL_one, natL_two, Nat.zero_mul, List.any_cons, List.any_nil, Bool.or_false, Bool.false_or, Bool.true_or, Bool.or_true, Bool.and_true, Bool.true_and, Bool.and_false, Bool.false_and, Bool.not_true, Bool.not_false, Nat.reduceBEq, Nat.reduceEqDiff, decide_true, decide_false, cond_true, cond_false, List.filter_nil, List.filter_cons, Nat.reduceAdd, Nat.reduceLeDiff, reduceCtorEq, List.length_nil, List.length_cons, Nat.mul_one, if_true, if_false, Bool.false_eq_true, eq_self, and_true, true_and, retL, resultsL, resAllL, resOfL, List.append_nil, List.nil_append, List.cons_append, true_or, or_true, false_or, or_false, false_and, and_false, not_true_eq_false, not_false_eq_true, ne_eq, unL, trim_nil, views_pures, LV.pures, LV.pure, freeze, Nat.reduceDiv, Int.reduceEq, Int.reduceLT, Int.reduceLE, Int.natCast_zero, LV.cells, allocL, List.getElem?_cons_zero, List.getElem?_cons_succ, storeL, spliceL, List.take_zero, List.take_succ_cons, List.drop_zero, List.drop_succ_cons, List.drop_nil, List.take_nil, Nat.le_refl, Nat.reduceMul, List.set_cons_zero, List.set_cons_succ, LV.scalar, List.all_cons, List.all_nil, Nat.lt_add_one, Nat.zero_lt_one, Nat.reduceLT, Nat.lt_irrefl, fillL, List.length_append, foldIntL, kind_beq, pures_int, solids_int, plains_int, unders_int, scalars_int, hlt, hw, hg]
      exact ih
    · rw [hgr] at hg ih
      simp only [if_true, Od.step] at ih
      by_cases c1 : k < f
      · rw [if_pos c1] at ih
        simp (maxSteps := 1000000) only [law12_PostOdd.B0, beqT, beqF, exF_seq, exF_region, exF_block, exF_cond, exF_ret, exF_exit, exF_skip, runL, wantL, stepL, evL, evC, LEnv.at, putL, loadFine, loadL, cellsAt, Trk.putNew, Trk.up, Trk.touch, Trk.gives, Trk.calm, Trk.hit, opdsOf, Trk.fresh, LEnv.keep, LEnv.ofFrom, List.map_cons, List.map_nil, nbeq, nble, nblt, ofAV, ofAVs, lenL, bin_add, bin_sub, bin_mul, bin_eql, bin_neq, bin_lss, bin_leq, bin_gtr, bin_geq, natL_nat, natL_zero, natL_one, natL_two, Nat.zero_mul, List.any_cons, List.any_nil, Bool.or_false, Bool.false_or, Bool.true_or, Bool.or_true, Bool.and_true, Bool.true_and, Bool.and_false, Bool.false_and, Bool.not_true, Bool.not_false, Nat.reduceBEq, Nat.reduceEqDiff, decide_true, decide_false, cond_true, cond_false, List.filter_nil, List.filter_cons, Nat.reduceAdd, Nat.reduceLeDiff, reduceCtorEq, List.length_nil, List.length_cons, Nat.mul_one, if_true, if_false, Bool.false_eq_true, eq_self, and_true, true_and, retL, resultsL, resAllL, resOfL, List.append_nil, List.nil_append, List.cons_append, true_or, or_true, false_or, or_false, false_and, and_false, not_true_eq_false, not_false_eq_true, ne_eq, unL, trim_nil, views_pures, LV.pures, LV.pure, freeze, Nat.reduceDiv, Int.reduceEq, Int.reduceLT, Int.reduceLE, Int.natCast_zero, LV.cells, allocL, List.getElem?_cons_zero, List.getElem?_cons_succ, storeL, spliceL, List.take_zero, List.take_succ_cons, List.drop_zero, List.drop_succ_cons, List.drop_nil, List.take_nil, Nat.le_refl, Nat.reduceMul, List.set_cons_zero, List.set_cons_succ, LV.scalar, List.all_cons, List.all_nil, Nat.lt_add_one, Nat.zero_lt_one, Nat.reduceLT, Nat.lt_irrefl, fillL, List.length_append, foldIntL, kind_beq, pures_int, solids_int, plains_int, unders_int, scalars_int, hlt, hw, hg, hpc, hc, hw0, ha1, hn1, show ((k : Int) < (f : Int)) by omega]
        exact ih
      · rw [if_neg c1] at ih
        by_cases c2 : k = f
        · subst c2
          simp only [if_true] at ih
          simp (maxSteps := 1000000) only [law12_PostOdd.B0, beqT, beqF, exF_seq, exF_region, exF_block, exF_cond, exF_ret, exF_exit, exF_skip, runL, wantL, stepL, evL, evC, LEnv.at, putL, loadFine, loadL, cellsAt, Trk.putNew, Trk.up, Trk.touch, Trk.gives, Trk.calm, Trk.hit, opdsOf, Trk.fresh, LEnv.keep, LEnv.ofFrom, List.map_cons, List.map_nil, nbeq, nble, nblt, ofAV, ofAVs, lenL, bin_add, bin_sub, bin_mul, bin_eql, bin_neq, bin_lss, bin_leq, bin_gtr, bin_geq, natL_nat, natL_zero, natL_one, natL_two, Nat.zero_mul, List.any_cons, List.any_nil, Bool.or_false, Bool.false_or, Bool.true_or, Bool.or_true, Bool.and_true, Bool.true_and, Bool.and_false, Bool.false_and, Bool.not_true, Bool.not_false, Nat.reduceBEq, Nat.reduceEqDiff, decide_true, decide_false, cond_true, cond_false, List.filter_nil, List.filter_cons, Nat.reduceAdd, Nat.reduceLeDiff, reduceCtorEq, List.length_nil, List.length_cons, Nat.mul_one, if_true, if_false, Bool.false_eq_true, eq_self, and_true, true_and, retL, resultsL, resAllL, resOfL, List.append_nil, List.nil_append, List.cons_append, true_or, or_true, false_or, or_false, false_and, and_false, not_true_eq_false, not_false_eq_true, ne_eq, unL, trim_nil, views_pures, LV.pures, LV.pure, freeze, Nat.reduceDiv, Int.reduceEq, Int.reduceLT, Int.reduceLE, Int.natCast_zero, LV.cells, allocL, List.getElem?_cons_zero, List.getElem?_cons_succ, storeL, spliceL, List.take_zero, List.take_succ_cons, List.drop_zero, List.drop_succ_cons, List.drop_nil, List.take_nil, Nat.le_refl, Nat.reduceMul, List.set_cons_zero, List.set_cons_succ, LV.scalar, List.all_cons, List.all_nil, Nat.lt_add_one, Nat.zero_lt_one, Nat.reduceLT, Nat.lt_irrefl, fillL, List.length_append, foldIntL, kind_beq, pures_int, solids_int, plains_int, unders_int, scalars_int, hlt, hw, hg, hpc, hc, hw1, ha2, hn2, Int.lt_irrefl]
          exact ih
        · rw [if_neg c2] at ih
          simp (maxSteps := 1000000) only [law12_PostOdd.B0, beqT, beqF, exF_seq, exF_region, exF_block, exF_cond, exF_ret, exF_exit, exF_skip, runL, wantL, stepL, evL, evC, LEnv.at, putL, loadFine, loadL, cellsAt, Trk.putNew, Trk.up, Trk.touch, Trk.gives, Trk.calm, Trk.hit, opdsOf, Trk.fresh, LEnv.keep, LEnv.ofFrom, List.map_cons, List.map_nil, nbeq, nble, nblt, ofAV, ofAVs, lenL, bin_add, bin_sub, bin_mul, bin_eql, bin_neq, bin_lss, bin_leq, bin_gtr, bin_geq, natL_nat, natL_zero, natL_one, natL_two, Nat.zero_mul, List.any_cons, List.any_nil, Bool.or_false, Bool.false_or, Bool.true_or, Bool.or_true, Bool.and_true, Bool.true_and, Bool.and_false, Bool.false_and, Bool.not_true, Bool.not_false, Nat.reduceBEq, Nat.reduceEqDiff, decide_true, decide_false, cond_true, cond_false, List.filter_nil, List.filter_cons, Nat.reduceAdd, Nat.reduceLeDiff, reduceCtorEq, List.length_nil, List.length_cons, Nat.mul_one, if_true, if_false, Bool.false_eq_true, eq_self, and_true, true_and, retL, resultsL, resAllL, resOfL, List.append_nil, List.nil_append, List.cons_append, true_or, or_true, false_or, or_false, false_and, and_false, not_true_eq_false, not_false_eq_true, ne_eq, unL, trim_nil, views_pures, LV.pures, LV.pure, freeze, Nat.reduceDiv, Int.reduceEq, Int.reduceLT, Int.reduceLE, Int.natCast_zero, LV.cells, allocL, List.getElem?_cons_zero, List.getElem?_cons_succ, storeL, spliceL, List.take_zero, List.take_succ_cons, List.drop_zero, List.drop_succ_cons, List.drop_nil, List.take_nil, Nat.le_refl, Nat.reduceMul, List.set_cons_zero, List.set_cons_succ, LV.scalar, List.all_cons, List.all_nil, Nat.lt_add_one, Nat.zero_lt_one, Nat.reduceLT, Nat.lt_irrefl, fillL, List.length_append, foldIntL, kind_beq, pures_int, solids_int, plains_int, unders_int, scalars_int, hlt, hw, hg, hpc, hc, show ¬ ((k : Int) < (f : Int)) by omega, show ¬ ((k : Int) = (f : Int)) by omega]
          exact ih
theorem odd_r {s : List Int} (K : OkS s) (m : LMem) : exF LP law12_PostOdd.B.R0 [(5, .int .i64 (cntV s : Int)), (6, .int .i64 (wayV s : Int)), (8, .int .u64 ((od s (2 ^ s.length)).a : Int)), (9, .int .u64 ((od s (2 ^ s.length)).n : Int)), (13, .int .i64 (cntV s : Int)), (14, .int .i64 0), (15, .int .i64 (wayV s : Int)), (16, .int .i64 0), (17, RV (askV s (fun _ => 0) (fun x => x))), (18, .int .i64 0), (19, RV (askV s (fun x => x) (fun _ => 0))), (20, .int .i64 0)] m = some (.normal, [(2, .bool true)], m) := by
  have hlt := (od_lt s K.le _ (pow_1024 K.le)).2.2.2
  have m1 := fun m => memb_v hlt.1 m
  have m2 := fun m => memb_v hlt.2 m
  have l1 : (askV s (fun _ => 0) (fun x => x)).length ≤ 10 := by rw [← od_always K]; exact memL_len _
  have l2 : (askV s (fun x => x) (fun _ => 0)).length ≤ 10 := by rw [← od_never K]; exact memL_len _
  rw [od_always K] at m1
  rw [od_never K] at m2
  have s1 := fun m => same_v l1 m
  have s2 := fun m => same_v l2 m
  have hodd : cntV s % 2 = 1 := by rw [cntV, if_pos K.chk]; exact gs_odd K
  have hrem : binL .rem (.int .i64 (cntV s : Int)) (.int .i64 2) = some (.int .i64 1) := by
    rw [bin_rem _ _ _ (show (2 : Int) ≠ 0 by omega)]
    have : (cntV s : Int).tmod 2 = ((cntV s % 2 : Nat) : Int) := rfl
    rw [this, hodd]; rfl
  generalize (od s (2 ^ s.length)).a = A at *
  generalize (od s (2 ^ s.length)).n = N at *
  generalize RV (askV s (fun _ => 0) (fun x => x)) = R1 at *
  generalize RV (askV s (fun x => x) (fun _ => 0)) = R2 at *
  generalize cntV s = c at *
  generalize wayV s = w at *
  simp (maxSteps := 1000000) only [law12_PostOdd.B.R0, beqT, beqF, exF_seq, exF_region, exF_block, exF_cond, exF_ret, exF_exit, exF_skip, runL, wantL, stepL, evL, evC, LEnv.at, putL, loadFine, loadL, cellsAt, Trk.putNew, Trk.up, Trk.touch, Trk.gives, Trk.calm, Trk.hit, opdsOf, Trk.fresh, LEnv.keep, LEnv.ofFrom, List.map_cons, List.map_nil, nbeq, nble, nblt, ofAV, ofAVs, lenL, bin_add, bin_sub, bin_mul, bin_eql, bin_neq, bin_lss, bin_leq, bin_gtr, bin_geq, natL_nat, natL_zero, natL_one, natL_two, Nat.zero_mul, List.any_cons, List.any_nil, Bool.or_false, Bool.false_or, Bool.true_or, Bool.or_true, Bool.and_true, Bool.true_and, Bool.and_false, Bool.false_and, Bool.not_true, Bool.not_false, Nat.reduceBEq, Nat.reduceEqDiff, decide_true, decide_false, cond_true, cond_false, List.filter_nil, List.filter_cons, Nat.reduceAdd, Nat.reduceLeDiff, reduceCtorEq, List.length_nil, List.length_cons, Nat.mul_one, if_true, if_false, Bool.false_eq_true, eq_self, and_true, true_and, retL, resultsL, resAllL, resOfL, List.append_nil, List.nil_append, List.cons_append, true_or, or_true, false_or, or_false, false_and, and_false, not_true_eq_false, not_false_eq_true, ne_eq, unL, trim_nil, views_pures, LV.pures, LV.pure, freeze, Nat.reduceDiv, Int.reduceEq, Int.reduceLT, Int.reduceLE, Int.natCast_zero, LV.cells, allocL, List.getElem?_cons_zero, List.getElem?_cons_succ, storeL, spliceL, List.take_zero, List.take_succ_cons, List.drop_zero, List.drop_succ_cons, List.drop_nil, List.take_nil, Nat.le_refl, Nat.reduceMul, List.set_cons_zero, List.set_cons_succ, LV.scalar, List.all_cons, List.all_nil, Nat.lt_add_one, Nat.zero_lt_one, Nat.reduceLT, Nat.lt_irrefl, fillL, List.length_append, foldIntL, kind_beq, pures_int, solids_int, plains_int, unders_int, scalars_int, m1, m2, s1, s2, hrem, works_c]
theorem odd_in (ns : List Int) (hl : ns.length = 11) (hb : ∀ n ∈ ns, 0 ≤ n ∧ n < 256) :
    clF LP n_law12_PostOdd [.agg (ns.map (LV.int .u8))] [] = some (.P, .bool true, []) := by
  obtain ⟨l, rfl, hlb⟩ := bytes_nat ns hb
  rw [ci_ln] at hl
  obtain ⟨p, bs, rfl⟩ : ∃ p bs, l = p :: bs := by
    cases l with
    | nil => simp at hl
    | cons p bs => exact ⟨p, bs, rfl⟩
  have hb10 : bs.length = 10 := by simpa using hl
  show clF LP n_law12_PostOdd [.agg (bys (p :: bs))] [] = some (.P, .bool true, [])
  obtain ⟨f1, f2, hm⟩ := made_c p (hlb p (by simp)) 10 (by omega) (by omega) bs hb10 (fun x hx => hlb x (by simp [hx]))
  have hk : p % 10 < 10 := Nat.mod_lt _ (by omega)
  obtain ⟨K, hsl⟩ := shoreN_ok (1 + p % 10) (by omega) (by omega) bs
  rw [hand_eq (1 + p % 10) (by omega) (by omega) bs] at hm
  have hm : ∀ m, clF LP n_law12_Coast_made [.agg (bys (p :: bs)), .int .i64 10] m = some (.P, .tup [IL false f1 1 (shoreN (1 + p % 10) bs), UD f2 (handsV (shoreN (1 + p % 10) bs))], m) := fun m => by
    have := hm m
    rw [show UD f2 (handsV (shoreN (1 + p % 10) bs)) = .lst false f2 1 (1 + p % 10) (nats (handsV (shoreN (1 + p % 10) bs))) by rw [UD, handsV_length, hsl]]
    exact this
  have hbl : (bys (p :: bs)).length = 11 := by simp [hb10]
  have hps : LV.pures (bys (p :: bs)) = true := pures_int _ _
  have htk : (bys (p :: bs)).take 11 = bys (p :: bs) := List.take_of_length_le (by omega)
  generalize bys (p :: bs) = w at *
  generalize shoreN (1 + p % 10) bs = s at *
  have hpure : LV.pures [LV.agg w] = true := by simp only [LV.pures, LV.pure, hps, Bool.and_true]
  refine call_P lp_law12_PostOdd rfl hpure (m1 := [⟨w, true⟩]) ?_ rfl []
  have hlo := odd_loop f1 f2 K _ rfl [⟨w, true⟩] (2 ^ s.length) 0 (by omega)
  simp only [od, Int.natCast_zero, show ((99 : Nat) : Int) = 99 from rfl] at hlo
  rw [od_count K, od_ways K] at hlo
  have hp0 : 0 < 2 ^ s.length := Nat.pow_pos (by omega)
  have hp1 := pow_1024 K.le
  have hsh : binL .shl (.int .u64 1) (.int .i64 (s.length : Int)) = some (.int .u64 ((2 ^ s.length : Nat) : Int)) := bits_shl (by have := K.le; omega)
  have hpr := bits_pred (a := 2 ^ s.length) (by omega) hp0
  have hpa : binL .add (.int .u64 ((2 ^ s.length - 1 : Nat) : Int)) (.int .u64 1) = some (.int .u64 ((2 ^ s.length : Nat) : Int)) := by
    rw [bin_add, wrapU_succ (by omega), Nat.sub_add_cancel hp0]
  have r := odd_r K [⟨w, true⟩]
  have c1 := count_v f1 K [⟨w, true⟩]
  have c2 := ways_v f1 K [⟨w, true⟩]
  have c3 := always_v f1 K [⟨w, true⟩]
  have c4 := never_v f1 K [⟨w, true⟩]
  have l0 : ∀ s, lenL (IL false f1 1 s) = some s.length := fun _ => rfl
  generalize 2 ^ s.length - 1 = P at *
  generalize 2 ^ s.length = N at *
  simp (maxSteps := 1000000) only [law12_PostOdd, law12_PostOdd.B, beqT, beqF, exF_seq, exF_region, exF_block, exF_cond, exF_ret, exF_exit, exF_skip, runL, wantL, stepL, evL, evC, LEnv.at, putL, loadFine, loadL, cellsAt, Trk.putNew, Trk.up, Trk.touch, Trk.gives, Trk.calm, Trk.hit, opdsOf, Trk.fresh, LEnv.keep, LEnv.ofFrom, List.map_cons, List.map_nil, nbeq, nble, nblt, ofAV, ofAVs, bin_add, bin_sub, bin_mul, bin_eql, bin_neq, bin_lss, bin_leq, bin_gtr, bin_geq, natL_nat, natL_zero, natL_one, natL_two, Nat.zero_mul, List.any_cons, List.any_nil, Bool.or_false, Bool.false_or, Bool.true_or, Bool.or_true, Bool.and_true, Bool.true_and, Bool.and_false, Bool.false_and, Bool.not_true, Bool.not_false, Nat.reduceBEq, Nat.reduceEqDiff, decide_true, decide_false, cond_true, cond_false, List.filter_nil, List.filter_cons, Nat.reduceAdd, Nat.reduceLeDiff, reduceCtorEq, List.length_nil, List.length_cons, Nat.mul_one, if_true, if_false, Bool.false_eq_true, eq_self, and_true, true_and, retL, resultsL, resAllL, resOfL, List.append_nil, List.nil_append, List.cons_append, true_or, or_true, false_or, or_false, false_and, and_false, not_true_eq_false, not_false_eq_true, ne_eq, unL, trim_nil, views_pures, LV.pures, LV.pure, freeze, Nat.reduceDiv, Int.reduceEq, Int.reduceLT, Int.reduceLE, Int.natCast_zero, LV.cells, allocL, List.getElem?_cons_zero, List.getElem?_cons_succ, storeL, spliceL, List.take_zero, List.take_succ_cons, List.drop_zero, List.drop_succ_cons, List.drop_nil, List.take_nil, Nat.le_refl, Nat.reduceMul, List.set_cons_zero, List.set_cons_succ, LV.scalar, List.all_cons, List.all_nil, Nat.lt_add_one, Nat.zero_lt_one, Nat.reduceLT, Nat.lt_irrefl, fillL, List.length_append, foldIntL, kind_beq, pures_int, solids_int, plains_int, unders_int, scalars_int, hbl, htk, hm, hsh, hpr, hpa, hlo, c1, c2, c3, c4, r, l0]
end Go.Am.Post


