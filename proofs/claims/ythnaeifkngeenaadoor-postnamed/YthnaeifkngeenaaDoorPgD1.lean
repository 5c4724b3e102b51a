import Derived.Test.YthnaeifkngeenaaDoorPgC16
import Derived.Test.YthnaeifkngeenaaDoorLm14
import Derived.KernelRfl
/-
  What functions of chapter 12 compute, outright 1: a shore by numbers.
-/
set_option linter.unusedVariables false
set_option linter.unusedSimpArgs false
set_option maxRecDepth 10000
namespace Go.Am.Post
open Go.Am.G

abbrev bys (l : List Nat) : List LV := (ci l).map (LV.int .u8)
theorem ci_ln (l : List Nat) : (ci l).length = l.length := by simp
theorem getD_app {α : Type} {a b : List α} {i : Nat} {d : α} (h : i < a.length) : (a ++ b).getD i d = a.getD i d := by
  rw [List.getD_eq_getElem?_getD, List.getD_eq_getElem?_getD, List.getElem?_append_left h]
theorem getD_app2 {α : Type} {a b : List α} {i : Nat} {d : α} (h : a.length ≤ i) : (a ++ b).getD i d = b.getD (i - a.length) d := by
  rw [List.getD_eq_getElem?_getD, List.getD_eq_getElem?_getD, List.getElem?_append_right h]
theorem bytes_nat : ∀ (ns : List Int), (∀ n ∈ ns, 0 ≤ n ∧ n < 256) → ∃ bs : List Nat, ns = ci bs ∧ ∀ b ∈ bs, b < 256
  | [], _ => ⟨[], rfl, by simp⟩
  | n :: r, h => by
    obtain ⟨bs, e, hb⟩ := bytes_nat r fun x hx => h x (by simp [hx])
    obtain ⟨h0, h1⟩ := h n (by simp)
    obtain ⟨k, rfl⟩ := Int.eq_ofNat_of_zero_le h0
    refine ⟨k :: bs, by rw [e]; rfl, ?_⟩
    intro b hb'
    rcases List.mem_cons.1 hb' with rfl | hb'
    · omega
    · exact hb b hb'
theorem app_at (m : LMem) (j i : Nat) (cs : List LV) (x : LV) (hx : x.scalar = true) (h : m[j]? = some ⟨cs, true⟩) (hl : cs.length = i) (h1 : 1 ≤ i) (hs : i < 1000) :
    appendL m 1 8 (.sl j 0 i i 1 1 i) (.lst false true 1 1 [x]) = some (.sl j 0 (i + 1) (i + 1) 1 1 (i + 1), m.set j ⟨cs ++ [x], true⟩) := by
  have hc : contents m 1 (.sl j 0 i i 1 1 i) = some (cs, i) := by
    simp only [contents, h]
    simp [nbeq, nble, hl]
    rw [List.take_of_length_le (by omega)]
  have hc2 : contents m 1 (.lst false true 1 1 [x]) = some ([x], 1) := rfl
  have hr : (Nat.ble ((i + 1) * 8) roomMost && Nat.ble (i + 1) roomMost && [x].all LV.scalar) = true := by
    simp [nble, roomMost, hx]; omega
  have hle : decide (i + 1 ≤ i) = false := by simp
  have hlt : decide (i < (i + 1) * 1) = true := by simp
  unfold appendL
  simp only [hc, hc2, hr, h]
  simp only [nbeq, nble, nblt, hle, hlt]
  simp
theorem app_lit (m : LMem) (x y : LV) (hx : x.scalar = true) : appendL m 1 8 (.lst false true 1 1 [y]) (.lst false true 1 1 [x]) = some (.sl m.length 0 2 2 1 1 2, m ++ [⟨[y, x], true⟩]) := by
  simp [appendL, contents, newSl, roomMost, nbeq, nble, hx]
/-- The shore. -/
def shN (bs : List Nat) : Nat → Nat → List Int → List Int
  | 0, _, s => s
  | d + 1, i, s => shN bs d (i + 1) (s ++ [((bs.getD i 0 % i : Nat) : Int)])
def haN (bs : List Nat) : Nat → Nat → List Nat → List Nat
  | 0, _, h => h
  | d + 1, i, h => haN bs d (i + 1) (hset (h ++ [2 ^ i ||| 2 ^ (bs.getD i 0 % i)]) (bs.getD i 0 % i) i)
theorem shN_len (bs : List Nat) (d : Nat) : ∀ i s, (shN bs d i s).length = s.length + d := by
  induction d with
  | zero => intro i s; rfl
  | succ d ih => intro i s; rw [shN, ih]; simp; omega
theorem haN_len (bs : List Nat) (d : Nat) : ∀ i h, (haN bs d i h).length = h.length + d := by
  induction d with
  | zero => intro i h; rfl
  | succ d ih => intro i h; rw [haN, ih, hset_length]; simp; omega
def shoreN (n : Nat) (bs : List Nat) : List Int := shN bs (n - 1) 1 [-1]
def handN (n : Nat) (bs : List Nat) : List Nat := haN bs (n - 1) 1 [1]
theorem shN_ok (bs : List Nat) (d : Nat) : ∀ (i : Nat) (s : List Int), 1 ≤ i → s.length = i → i + d ≤ 10 → OkS s → OkS (shN bs d i s) := by
  induction d with
  | zero => intro i s _ _ _ h; exact h
  | succ d ih =>
    intro i s h1 hl h10 K
    rw [shN]
    have hm : bs.getD i 0 % i < i := Nat.mod_lt _ h1
    generalize bs.getD i 0 % i = q at *
    refine ih (i + 1) _ (by omega) (by simp [hl]) (by omega) ⟨by simp, by simp; omega, ?_, ?_⟩
    · rw [getD_app K.pos]; exact K.h0
    · intro j j0 hj
      by_cases c : j < s.length
      · rw [getD_app c]; exact K.hi j j0 c
      · have e : j = s.length := by simp at hj; omega
        subst e
        rw [getD_app2 (Nat.le_refl _)]
        simp; omega
theorem shoreN_ok (n : Nat) (h1 : 1 ≤ n) (h10 : n ≤ 10) (bs : List Nat) : OkS (shoreN n bs) ∧ (shoreN n bs).length = n := by
  refine ⟨shN_ok bs _ 1 [-1] (by omega) rfl (by omega) ⟨by simp, by simp, rfl, fun j h0 hj => by simp at hj; omega⟩, ?_⟩
  rw [shoreN, shN_len]; simp; omega
theorem small_app {h : List Nat} (H : Small h) {x : Nat} (hx : x < 1024) : Small (h ++ [x]) := fun i => by
  by_cases c : i < h.length
  · rw [getD_app c]; exact H i
  · rw [getD_app2 (by omega)]
    rcases Nat.eq_zero_or_pos (i - h.length) with e | e
    · rw [e]; simpa using hx
    · rw [List.getD_eq_getElem?_getD, List.getElem?_eq_none (by simp; omega)]; simp
theorem coast_loop (bs : List Nat) (hb10 : bs.length = 10) (hb : ∀ x ∈ bs, x < 256) (w : List LV) (hw : w[0]? = w[0]?) (n : Nat) (hn : n ≤ 10) (hwl : w.length = 11) (hwat : ∀ i, i < 10 → w[1 + i]? = some (.int .u8 ((bs.getD i 0 : Nat) : Int))) (d : Nat) : ∀ (i : Nat) (s : List Int) (h : List Nat), 2 ≤ i → i + d = n → s.length = i → h.length = i → Small h →
    exF LP law12_Coast_made.L0 [(2, .ptr 0 0 11), (6, .int .i64 (n : Int)), (7, .sl 1 0 i i 1 1 i), (8, .sl 2 0 i i 1 1 i), (9, .int .i64 (i : Int))] [⟨w, true⟩, ⟨ints s, true⟩, ⟨nats h, true⟩] =
      some (.exit 0, [(7, .sl 1 0 n n 1 1 n), (8, .sl 2 0 n n 1 1 n)], [⟨w, true⟩, ⟨ints (shN bs d i s), true⟩, ⟨nats (haN bs d i h), true⟩]) := by
  induction d with
  | zero =>
    intro i s h h2 hi hs hh H
    obtain rfl : i = n := by omega
    rw [law12_Coast_made.L0_eq, shN, haN]
    simp only [law12_Coast_made.B0, beqT, beqF, exF_seq, exF_region, exF_block, exF_cond, exF_ret, exF_exit, exF_skip, runL, wantL, stepL, evL, evC, LEnv.at, putL, loadFine, loadL, cellsAt, Trk.putNew, Trk.up, Trk.touch, Trk.gives, Trk.calm, Trk.hit, opdsOf, Trk.fresh, LEnv.keep, LEnv.ofFrom, List.map_cons, List.map_nil, nbeq, nble, nblt, ofAV, ofAVs, lenL, bin_add, bin_sub, bin_mul, bin_eql, bin_neq, bin_lss, bin_leq, bin_gtr, bin_geq, natL_nat, natL_zero, natL_one, natL_two, Nat.zero_mul, List.any_cons, List.any_nil, Bool.or_false, Bool.false_or, Bool.true_or, Bool.or_true, Bool.and_true, Bool.true_and, Bool.and_false, Bool.false_and, Bool.not_true, Bool.not_false, Nat.reduceBEq, Nat.reduceEqDiff, decide_true, decide_false, cond_true, cond_false, List.filter_nil, List.filter_cons, Nat.reduceAdd, Nat.reduceLeDiff, reduceCtorEq, List.length_nil, List.length_cons, Nat.mul_one, if_true, if_false, Bool.false_eq_true, eq_self, and_true, true_and, retL, resultsL, resAllL, resOfL, List.append_nil, List.nil_append, List.cons_append, true_or, or_true, false_or, or_false, false_and, and_false, not_true_eq_false, not_false_eq_true, ne_eq, unL, trim_nil, views_pures, LV.pures, LV.pure, freeze, Nat.reduceDiv, Int.reduceEq, Int.reduceLT, Int.reduceLE, Int.natCast_zero, LV.cells, allocL, List.getElem?_cons_zero, List.getElem?_cons_succ, storeL, spliceL, List.take_zero, List.take_succ_cons, List.drop_zero, List.drop_succ_cons, List.drop_nil, List.take_nil, Nat.le_refl, Nat.reduceMul, List.set_cons_zero, List.set_cons_succ, LV.scalar, List.all_cons, List.all_nil, Nat.lt_add_one, Nat.zero_lt_one, Nat.reduceLT, Nat.lt_irrefl, fillL, List.length_append, foldIntL, kind_beq, pures_int, solids_int, plains_int, unders_int, scalars_int, Int.lt_irrefl]
  | succ d ih =>
    intro i s h h2 hi hs hh H
    have hm : bs.getD i 0 % i < i := Nat.mod_lt _ (by omega)
    have hat := hwat i (by omega)
    have hbi : bs.getD i 0 < 256 := by
      rw [List.getD_eq_getElem?_getD, List.getElem?_eq_getElem (by omega)]
      exact hb _ (List.getElem_mem _)
    have hwr : IntKind.i64.wrap ((bs.getD i 0 : Nat) : Int) = ((bs.getD i 0 : Nat) : Int) := wrap_in (by omega)
    have hrem : binL .rem (.int .i64 ((bs.getD i 0 : Nat) : Int)) (.int .i64 (i : Int)) = some (.int .i64 ((bs.getD i 0 % i : Nat) : Int)) := by
      rw [bin_rem _ _ _ (show (i : Int) ≠ 0 by omega)]; rfl
    rw [shN, haN]
    generalize bs.getD i 0 % i = b at *
    generalize bs.getD i 0 = x at *
    have a1 := app_at [⟨w, true⟩, ⟨ints s, true⟩, ⟨nats h, true⟩] 1 i (ints s) (.int .i64 (b : Int)) rfl rfl (by simp [hs]) (by omega) (by omega)
    have e1 : ints s ++ [.int .i64 (b : Int)] = ints (s ++ [(b : Int)]) := by simp
    rw [e1] at a1
    have a2 := app_at [⟨w, true⟩, ⟨ints (s ++ [(b : Int)]), true⟩, ⟨nats h, true⟩] 2 i (nats h) (.int .u64 ((2 ^ i ||| 2 ^ b : Nat) : Int)) rfl rfl (by simp [hh]) (by omega) (by omega)
    have e2 : nats h ++ [.int .u64 ((2 ^ i ||| 2 ^ b : Nat) : Int)] = nats (h ++ [2 ^ i ||| 2 ^ b]) := by simp
    rw [e2] at a2
    simp only [List.set_cons_succ, List.set_cons_zero] at a1 a2
    have p1 : 2 ^ i < 1024 := Nat.pow_lt_pow_right (a := 2) (n := 10) (by omega) (by omega)
    have p2 : 2 ^ b < 1024 := Nat.pow_lt_pow_right (a := 2) (n := 10) (by omega) (by omega)
    have p3 : 2 ^ i ||| 2 ^ b < 1024 := Nat.or_lt_two_pow (n := 10) p1 p2
    have H2 := small_app H p3
    have H3 := hset_small H2 b (x := i) (by omega)
    have s1 := bits_shl (i := i) (by omega)
    have s2 := bits_shl (i := b) (by omega)
    have o1 := bits_or (a := 2 ^ i) (b := 2 ^ b) (by omega) (by omega)
    have hl2 : (h ++ [2 ^ i ||| 2 ^ b]).length = i + 1 := by simp [hh]
    have hv := H2 b
    have o2 := bits_or (a := (h ++ [2 ^ i ||| 2 ^ b]).getD b 0) (b := 2 ^ i) (by omega) (by omega)
    have hg := nats_getD (h ++ [2 ^ i ||| 2 ^ b]) b (by omega)
    have hst := set_hset (h ++ [2 ^ i ||| 2 ^ b]) b i (by omega)
    have hnl : (nats (h ++ [2 ^ i ||| 2 ^ b])).length = i + 1 := by rw [nats_length]; exact hl2
    have ih := ih (i + 1) (s ++ [(b : Int)]) (hset (h ++ [2 ^ i ||| 2 ^ b]) b i) (by omega) (by omega) (by simp [hs]) (by rw [hset_length]; exact hl2) H3
    have hws := wrap_succ (show i + 1 < 9223372036854775808 by omega)
    generalize hset (h ++ [2 ^ i ||| 2 ^ b]) b i = h3 at *
    generalize (h ++ [2 ^ i ||| 2 ^ b]).getD b 0 = hv0 at *
    generalize h ++ [2 ^ i ||| 2 ^ b] = h2' at *
    generalize 2 ^ i ||| 2 ^ b = q at *
    generalize nats h2' = nh2 at *
    generalize nats h3 = nh3 at *
    generalize ints (s ++ [(b : Int)]) = is2 at *
    rw [law12_Coast_made.L0_eq]
    simp only [law12_Coast_made.B0, beqT, beqF, exF_seq, exF_region, exF_block, exF_cond, exF_ret, exF_exit, exF_skip, runL, wantL, stepL, evL, evC, LEnv.at, putL, loadFine, loadL, cellsAt, Trk.putNew, Trk.up, Trk.touch, Trk.gives, Trk.calm, Trk.hit, opdsOf, Trk.fresh, LEnv.keep, LEnv.ofFrom, List.map_cons, List.map_nil, nbeq, nble, nblt, ofAV, ofAVs, lenL, bin_add, bin_sub, bin_mul, bin_eql, bin_neq, bin_lss, bin_leq, bin_gtr, bin_geq, natL_nat, natL_zero, natL_one, natL_two, Nat.zero_mul, List.any_cons, List.any_nil, Bool.or_false, Bool.false_or, Bool.true_or, Bool.or_true, Bool.and_true, Bool.true_and, Bool.and_false, Bool.false_and, Bool.not_true, Bool.not_false, Nat.reduceBEq, Nat.reduceEqDiff, decide_true, decide_false, cond_true, cond_false, List.filter_nil, List.filter_cons, Nat.reduceAdd, Nat.reduceLeDiff, reduceCtorEq, List.length_nil, List.length_cons, Nat.mul_one, if_true, if_false, Bool.false_eq_true, eq_self, and_true, true_and, retL, resultsL, resAllL, resOfL, List.append_nil, List.nil_append, List.cons_append, true_or, or_true, false_or, or_false, false_and, and_false, not_true_eq_false, not_false_eq_true, ne_eq, unL, trim_nil, views_pures, LV.pures, LV.pure, freeze, Nat.reduceDiv, Int.reduceEq, Int.reduceLT, Int.reduceLE, Int.natCast_zero, LV.cells, allocL, List.getElem?_cons_zero, List.getElem?_cons_succ, storeL, spliceL, List.take_zero, List.take_succ_cons, List.drop_zero, List.drop_succ_cons, List.drop_nil, List.take_nil, Nat.le_refl, Nat.reduceMul, List.set_cons_zero, List.set_cons_succ, LV.scalar, List.all_cons, List.all_nil, Nat.lt_add_one, Nat.zero_lt_one, Nat.reduceLT, Nat.lt_irrefl, fillL, List.length_append, foldIntL, kind_beq, pures_int, solids_int, plains_int, unders_int, scalars_int, show ((i : Int) < (n : Int)) by omega, show i < 10 by omega, hwl, Nat.zero_add, hat, hwr, hrem, a1, s1, s2, o1, a2, show b < i + 1 by omega, hnl, hg, o2, show b + 1 ≤ i + 1 by omega, hst, hws, ih]
end Go.Am.Post

/-
  What functions of chapter 12 compute, outright 2: plain facts for the law 'PostMore'.
-/
set_option linter.unusedVariables false
set_option linter.unusedSimpArgs false
set_option maxRecDepth 10000
namespace Go.Am.Post
open Go.Am.G

theorem anyBad_no (N : Nat) : ∀ (l : List Int) (i : Nat), (∀ j, j < l.length → 0 < i + j → 0 ≤ l.getD j 0 ∧ l.getD j 0 < ((i + j : Nat) : Int)) → anyBad i l = false
  | [], i, _ => rfl
  | x :: r, i, h => by
    rw [anyBad, Bool.or_eq_false_iff]
    refine ⟨?_, anyBad_no N r (i + 1) fun j hj h0 => ?_⟩
    · rw [Bool.eq_false_iff]
      intro c
      rw [badAt_of] at c
      have := h 0 (by simp) (by omega)
      simp at this
      omega
    · have := h (j + 1) (by simp; omega) (by omega)
      simpa [Nat.add_assoc, Nat.add_comm, Nat.add_left_comm] using this
theorem OkS.chk {s : List Int} (K : OkS s) : chkS s = 0 := by
  have hp := K.pos
  have hl := K.le
  unfold chkS
  rw [if_neg (by omega), if_neg (by omega), if_neg (by simpa using K.h0), anyBad_no s.length s 0 fun j hj h0 => by
    have := K.hi j (by omega) hj
    simpa using this]
  rfl
theorem best_min {s : List Int} (price : Nat → Nat) {S : List Nat} (hS : S ∈ asc 0 s.length) (hd : dom (par s) s.length S = true) : bestC s price ≤ cost price S :=
  ((wh_some _ _ _ _ _ _).1 (best_ok s price)).2 S hS ⟨hd, by simp, by simp⟩
theorem firstS_good (s : List Int) (price : Nat → Nat) : dom (par s) s.length (firstS s price) = true ∧ cost price (firstS s price) = bestC s price := by
  have h := List.find?_some (firstS_find s price)
  simpa [goodC] using h
theorem few_len (s : List Int) : (firstS s (fun _ => 1)).length = bestC s (fun _ => 1) := by
  have := (firstS_good s (fun _ => 1)).2
  rwa [cost_one] at this
theorem near_nb {s : List Int} (K : OkS s) {v w : Nat} (hv : v < s.length) (hw : w < s.length) : nb s v w = true ↔ near (par s) v w := by
  have key : ∀ x y : Nat, x < s.length → y < s.length → (s.getD x 0 = (y : Int) ↔ x ≠ 0 ∧ y = par s x) := fun x y hx hy => by
    by_cases e : x = 0
    · subst e
      have := K.h0
      constructor
      · intro c; omega
      · intro c; exact absurd rfl c.1
    · have := K.hi x (by omega) hx
      unfold par
      rw [if_pos hx]
      constructor
      · intro c; exact ⟨e, by omega⟩
      · intro c; omega
  simp only [nb, near, adj_iff, Bool.or_eq_true, decide_eq_true_eq]
  rw [key w v hw hv, key v w hv hw]
  constructor
  · rintro (h | ⟨a, b⟩ | h)
    · exact .inl h.symm
    · exact .inr (.inr ⟨a, b.symm⟩)
    · exact .inr (.inl h)
  · rintro (h | h | ⟨a, b⟩)
    · exact .inl h.symm
    · exact .inr (.inr h)
    · exact .inr (.inl ⟨a, b.symm⟩)
theorem far_hd {s : List Int} (K : OkS s) {a b : Nat} (ha : a < s.length) (hb : b < s.length) : hd s a &&& hd s b = 0 ↔ ∀ w, w < s.length → ¬ (near (par s) a w ∧ near (par s) b w) := by
  rw [and_zero_iff]
  constructor
  · intro h w hw c
    refine h w ?_
    unfold hd
    rw [hands_bit K ha, hands_bit K hb, (near_nb K ha hw).2 c.1, (near_nb K hb hw).2 c.2]
    simp [hw]
  · intro h w c
    unfold hd at c
    rw [hands_bit K ha, hands_bit K hb] at c
    simp only [Bool.and_eq_true, decide_eq_true_eq] at c
    exact h w c.1.2 ⟨(near_nb K ha c.1.2).1 c.1.1, (near_nb K hb c.1.2).1 c.2.1⟩
theorem far_in {s : List Int} (K : OkS s) {a b : Nat} (ha : a < s.length) (hb : b < s.length) (hab : a ≠ b) : far (par s) a b ↔ hd s a &&& hd s b = 0 := by
  rw [far_hd K ha hb]
  constructor
  · intro h w _; exact h w
  · intro h w c
    by_cases hw : w < s.length
    · exact h w hw c
    · have out : ∀ x, x < s.length → near (par s) x w → x = 0 := fun x hx q => by
        rcases q with q | q
        · omega
        · rw [adj_iff] at q
          rcases q with ⟨q1, q2⟩ | ⟨q1, q2⟩
          · have := par_lt K x q1; omega
          · unfold par at q2
            rw [if_neg hw] at q2
            exact q2.symm
      have := out a ha c.1
      have := out b hb c.2
      omega
theorem fits_far {s : List Int} (K : OkS s) {P : List Nat} (hP : P ∈ asc 0 s.length) : fits (hd s) 0 P = true ↔ P.Pairwise (far (par s)) := by
  have hm := (mem_asc _ _ _).1 hP
  have hlt : ∀ x ∈ P, x < s.length := fun x hx => by have := hm.2 x hx; omega
  have hnd := up_nodup hm.1
  rw [fits_iff]
  constructor
  · rintro ⟨_, h⟩
    have h2 := List.Pairwise.and h hnd
    exact h2.imp_of_mem fun {a b} ha hb q => (far_in K (hlt a ha) (hlt b hb) q.2).2 q.1
  · intro h
    refine ⟨fun x _ => Nat.and_zero _, ?_⟩
    have h2 := List.Pairwise.and h hnd
    exact h2.imp_of_mem fun {a b} ha hb q => (far_in K (hlt a ha) (hlt b hb) q.2).1 q.1
/-- As many places can be apart as posts are needed. -/
theorem apart_few {s : List Int} (K : OkS s) : (grM (hd s) s.length 0 0).length = bestC s (fun _ => 1) := by
  have hg := gr_find (hd s) s.length 0 0
  have h1 := List.find?_some hg
  have h2 := List.mem_of_find?_eq_some hg
  simp only [Bool.and_eq_true, decide_eq_true_eq] at h1
  obtain ⟨h3, h4⟩ := h1
  have hm := (mem_asc _ _ _).1 h2
  have hfar := (fits_far K h2).1 h3
  have hup : (grM (hd s) s.length 0 0).length ≤ (firstS s (fun _ => 1)).length := weak (par s) s.length (firstS_good s _).1 (fun p hp => by have := hm.2 p hp; omega) hfar
  rw [few_len] at hup
  obtain ⟨S, P, d1, d2, d3, d4, d5⟩ := dual (par s) (par_lt K) s.length
  have e1 := best_min (fun _ => 1) d1 d2
  rw [cost_one] at e1
  have e2 := most_le (hd s) s.length 0 0 P d3 ((fits_far K d3).2 d4)
  omega
end Go.Am.Post

/-
  What functions of chapter 12 compute, outright 3: a shore made of numbers, and what posts cost.
-/
set_option linter.unusedVariables false
set_option linter.unusedSimpArgs false
set_option maxRecDepth 10000
namespace Go.Am.Post
open Go.Am.G

theorem views_both (k : Nat) (m : LMem) (a b a' b' : LV) (ids ids' : List Nat) (ha : ∀ k, view (k + 3) m a = some (a', ids)) (hb : ∀ k, view (k + 3) m b = some (b', ids')) (hn : LV.pures [a, b] = false) : viewL (k + 8) m [a, b] = some ([a', b'], ids ++ ids') := by
  rw [viewL.eq_def]
  simp only [hn, cond_false]
  rw [viewC.eq_def]
  simp only [ha]
  rw [viewC.eq_def]
  simp only [hb]
  rw [viewC.eq_def]
  simp
theorem view_both (m : LMem) (a b a' b' : LV) (ids ids' : List Nat) (ha : ∀ k, view (k + 3) m a = some (a', ids)) (hb : ∀ k, view (k + 3) m b = some (b', ids')) (hn : LV.pures [a, b] = false) : view 40 m (.tup [a, b]) = some (.tup [a', b'], ids ++ ids') := by
  rw [view.eq_def]
  simp only [views_both 31 m a b a' b' ids ids' ha hb hn]
theorem made_c (p : Nat) (hp : p < 256) (most : Nat) (h1 : 1 ≤ most) (h10 : most ≤ 10) (bs : List Nat) (hb10 : bs.length = 10) (hb : ∀ x ∈ bs, x < 256) :
    ∃ b d : Bool, ∀ m, clF LP n_law12_Coast_made [.agg (bys (p :: bs)), .int .i64 (most : Int)] m = some (.P, .tup [IL false b 1 (shoreN (1 + p % most) bs), .lst false d 1 (1 + p % most) (nats (handN (1 + p % most) bs))], m) := by
  have hk : p % most < most := Nat.mod_lt _ (by omega)
  have hw : IntKind.i64.wrap ((p : Nat) : Int) = ((p : Nat) : Int) := wrap_in (by omega)
  have hrem : binL .rem (.int .i64 ((p : Nat) : Int)) (.int .i64 (most : Int)) = some (.int .i64 ((p % most : Nat) : Int)) := by
    rw [bin_rem _ _ _ (show (most : Int) ≠ 0 by omega)]; rfl
  have hadd : IntKind.i64.wrap (1 + ((p % most : Nat) : Int)) = ((1 + p % most : Nat) : Int) := by
    rw [wrap_in (by omega)]; simp
  have hn10 : 1 + p % most ≤ 10 := by omega
  have hn1 : 1 ≤ 1 + p % most := by omega
  have hb0 : (bys (p :: bs))[0]? = some (.int .u8 ((p : Nat) : Int)) := rfl
  have hbl : (bys (p :: bs)).length = 11 := by simp [hb10]
  have hps : LV.pures (bys (p :: bs)) = true := pures_int _ _
  have hat : ∀ i, i < 10 → (bys (p :: bs))[1 + i]? = some (.int .u8 ((bs.getD i 0 : Nat) : Int)) := fun i hi => by
    rw [Nat.add_comm]
    have : i < bs.length := by omega
    simp [List.getD_eq_getElem?_getD, this]
  have hpu : ∀ l : List Nat, LV.pures (nats l) = true := pures_nats
  generalize bys (p :: bs) = w at *
  generalize 1 + p % most = n at *
  generalize p % most = q at *
  have hpure : LV.pures [LV.agg w, .int .i64 (most : Int)] = true := by simp only [LV.pures, LV.pure, hps, Bool.and_true]
  by_cases c : n = 1
  · subst c
    refine ⟨true, true, fun m => call_P lp_law12_Coast_made rfl hpure (m1 := [⟨w, true⟩]) ?_ (by simp [LV.pures, LV.pure]) m⟩
    have hlo : exF LP law12_Coast_made.L0 [(2, .ptr 0 0 11), (6, .int .i64 1), (7, .lst false true 1 1 [.int .i64 (-1)]), (8, .lst false true 1 1 [.int .u64 1]), (9, .int .i64 1)] [⟨w, true⟩] = some (.exit 0, [(7, .lst false true 1 1 [.int .i64 (-1)]), (8, .lst false true 1 1 [.int .u64 1])], [⟨w, true⟩]) := by
      rw [law12_Coast_made.L0_eq]
      simp only [law12_Coast_made.B0, beqT, beqF, exF_seq, exF_region, exF_block, exF_cond, exF_ret, exF_exit, exF_skip, runL, wantL, stepL, evL, evC, LEnv.at, putL, loadFine, loadL, cellsAt, Trk.putNew, Trk.up, Trk.touch, Trk.gives, Trk.calm, Trk.hit, opdsOf, Trk.fresh, LEnv.keep, LEnv.ofFrom, List.map_cons, List.map_nil, nbeq, nble, nblt, ofAV, ofAVs, lenL, bin_add, bin_sub, bin_mul, bin_eql, bin_neq, bin_lss, bin_leq, bin_gtr, bin_geq, natL_nat, natL_zero, natL_one, natL_two, Nat.zero_mul, List.any_cons, List.any_nil, Bool.or_false, Bool.false_or, Bool.true_or, Bool.or_true, Bool.and_true, Bool.true_and, Bool.and_false, Bool.false_and, Bool.not_true, Bool.not_false, Nat.reduceBEq, Nat.reduceEqDiff, decide_true, decide_false, cond_true, cond_false, List.filter_nil, List.filter_cons, Nat.reduceAdd, Nat.reduceLeDiff, reduceCtorEq, List.length_nil, List.length_cons, Nat.mul_one, if_true, if_false, Bool.false_eq_true, eq_self, and_true, true_and, retL, resultsL, resAllL, resOfL, List.append_nil, List.nil_append, List.cons_append, true_or, or_true, false_or, or_false, false_and, and_false, not_true_eq_false, not_false_eq_true, ne_eq, unL, trim_nil, views_pures, LV.pures, LV.pure, freeze, Nat.reduceDiv, Int.reduceEq, Int.reduceLT, Int.reduceLE, Int.natCast_zero, LV.cells, allocL, List.getElem?_cons_zero, List.getElem?_cons_succ, storeL, spliceL, List.take_zero, List.take_succ_cons, List.drop_zero, List.drop_succ_cons, List.drop_nil, List.take_nil, Nat.le_refl, Nat.reduceMul, List.set_cons_zero, List.set_cons_succ, LV.scalar, List.all_cons, List.all_nil, Nat.lt_add_one, Nat.zero_lt_one, Nat.reduceLT, Nat.lt_irrefl, fillL, List.length_append, foldIntL, kind_beq, pures_int, solids_int, plains_int, unders_int, scalars_int]
    have hadd : IntKind.i64.wrap (1 + (q : Int)) = 1 := hadd
    simp only [law12_Coast_made, law12_Coast_made.B, beqT, beqF, exF_seq, exF_region, exF_block, exF_cond, exF_ret, exF_exit, exF_skip, runL, wantL, stepL, evL, evC, LEnv.at, putL, loadFine, loadL, cellsAt, Trk.putNew, Trk.up, Trk.touch, Trk.gives, Trk.calm, Trk.hit, opdsOf, Trk.fresh, LEnv.keep, LEnv.ofFrom, List.map_cons, List.map_nil, nbeq, nble, nblt, ofAV, ofAVs, lenL, bin_add, bin_sub, bin_mul, bin_eql, bin_neq, bin_lss, bin_leq, bin_gtr, bin_geq, natL_nat, natL_zero, natL_one, natL_two, Nat.zero_mul, List.any_cons, List.any_nil, Bool.or_false, Bool.false_or, Bool.true_or, Bool.or_true, Bool.and_true, Bool.true_and, Bool.and_false, Bool.false_and, Bool.not_true, Bool.not_false, Nat.reduceBEq, Nat.reduceEqDiff, decide_true, decide_false, cond_true, cond_false, List.filter_nil, List.filter_cons, Nat.reduceAdd, Nat.reduceLeDiff, reduceCtorEq, List.length_nil, List.length_cons, Nat.mul_one, if_true, if_false, Bool.false_eq_true, eq_self, and_true, true_and, retL, resultsL, resAllL, resOfL, List.append_nil, List.nil_append, List.cons_append, true_or, or_true, false_or, or_false, false_and, and_false, not_true_eq_false, not_false_eq_true, ne_eq, unL, trim_nil, views_pures, LV.pures, LV.pure, freeze, Nat.reduceDiv, Int.reduceEq, Int.reduceLT, Int.reduceLE, Int.natCast_zero, LV.cells, allocL, List.getElem?_cons_zero, List.getElem?_cons_succ, storeL, spliceL, List.take_zero, List.take_succ_cons, List.drop_zero, List.drop_succ_cons, List.drop_nil, List.take_nil, Nat.le_refl, Nat.reduceMul, List.set_cons_zero, List.set_cons_succ, LV.scalar, List.all_cons, List.all_nil, Nat.lt_add_one, Nat.zero_lt_one, Nat.reduceLT, Nat.lt_irrefl, fillL, List.length_append, foldIntL, kind_beq, pures_int, solids_int, plains_int, unders_int, scalars_int, hbl, hb0, hw, hrem, hadd, hlo]
    rfl
  · have hx := hat 1 (by omega)
    have hlo := coast_loop bs hb10 hb w rfl n hn10 hbl hat (n - 2) 2 [-1, 0] (hset [1, 3] 0 1) (by omega) (by omega) rfl (by simp [hset]) (hset_small (fun i => by
      match i with
      | 0 => decide
      | 1 => decide
      | i + 2 => simp) 0 (by omega))
    have es : shN bs (n - 2) 2 [-1, 0] = shoreN n bs := by
      rw [shoreN, show n - 1 = (n - 2) + 1 by omega, shN]
      simp [Nat.mod_one]
    have eh : haN bs (n - 2) 2 (hset [1, 3] 0 1) = handN n bs := by
      rw [handN, show n - 1 = (n - 2) + 1 by omega, haN]
      simp [Nat.mod_one]
    rw [es, eh] at hlo
    have hsl : (shoreN n bs).length = n := (shoreN_ok n hn1 hn10 bs).2
    have hhl : (handN n bs).length = n := by rw [handN, haN_len]; simp; omega
    generalize shoreN n bs = s at *
    generalize handN n bs = h at *
    have v1 : ∀ k, view (k + 3) [⟨w, true⟩, ⟨ints s, true⟩, ⟨nats h, true⟩] (.sl 1 0 n n 1 1 n) = some (IL false false 1 s, [1]) := fun k => by
      have := view_sl k [⟨w, true⟩, ⟨ints s, true⟩, ⟨nats h, true⟩] 1 0 n n 1 s true rfl hsl (by omega) n (Nat.le_refl _)
      rw [List.drop_zero, List.take_of_length_le (by omega)] at this
      rw [this]
      simp [nbeq]
    have v2 : ∀ k, view (k + 3) [⟨w, true⟩, ⟨ints s, true⟩, ⟨nats h, true⟩] (.sl 2 0 n n 1 1 n) = some (.lst false false 1 n (nats h), [2]) := fun k => by
      have := view_slc k [⟨w, true⟩, ⟨ints s, true⟩, ⟨nats h, true⟩] 2 0 n n 1 n 1 (nats h) true rfl (by rw [List.drop_zero, List.take_of_length_le (by simp [hhl])]; exact hpu h) (by simp [hhl]) (by omega) (Nat.le_refl _)
      rw [List.drop_zero, List.take_of_length_le (by simp [hhl])] at this
      rw [this]
      simp [nbeq]
    have hv := view_both [⟨w, true⟩, ⟨ints s, true⟩, ⟨nats h, true⟩] _ _ _ _ _ _ v1 v2 (by simp [LV.pures, LV.pure])
    refine ⟨false, false, fun m => call_Pv lp_law12_Coast_made rfl hpure ?_ hv m⟩
    have a1 := app_lit [⟨w, true⟩] (.int .i64 0) (.int .i64 (-1)) rfl
    have a2 := app_lit [⟨w, true⟩, ⟨[.int .i64 (-1), .int .i64 0], true⟩] (.int .u64 3) (.int .u64 1) rfl
    have hx1 : bs.getD 1 0 < 256 := by
      rw [List.getD_eq_getElem?_getD, List.getElem?_eq_getElem (by omega)]
      exact hb _ (List.getElem_mem _)
    have hwr : IntKind.i64.wrap ((bs.getD 1 0 : Nat) : Int) = ((bs.getD 1 0 : Nat) : Int) := wrap_in (by omega)
    have hrm : binL .rem (.int .i64 ((bs.getD 1 0 : Nat) : Int)) (.int .i64 1) = some (.int .i64 0) := by
      rw [bin_rem _ _ _ (show (1 : Int) ≠ 0 by omega), Int.tmod_one]
    have s1 : binL .shl (.int .u64 1) (.int .i64 1) = some (.int .u64 2) := bits_shl (i := 1) (by omega)
    have s0 : binL .shl (.int .u64 1) (.int .i64 0) = some (.int .u64 1) := bits_shl (i := 0) (by omega)
    have o1 : binL .or (.int .u64 2) (.int .u64 1) = some (.int .u64 3) := bits_or (a := 2) (b := 1) (by omega) (by omega)
    have o2 : binL .or (.int .u64 1) (.int .u64 2) = some (.int .u64 3) := bits_or (a := 1) (b := 2) (by omega) (by omega)
    have hlo : exF LP law12_Coast_made.L0 [(2, .ptr 0 0 11), (6, .int .i64 (n : Int)), (7, .sl 1 0 2 2 1 1 2), (8, .sl 2 0 2 2 1 1 2), (9, .int .i64 2)] [⟨w, true⟩, ⟨[.int .i64 (-1), .int .i64 0], true⟩, ⟨[.int .u64 3, .int .u64 3], true⟩] = some (.exit 0, [(7, .sl 1 0 n n 1 1 n), (8, .sl 2 0 n n 1 1 n)], [⟨w, true⟩, ⟨ints s, true⟩, ⟨nats h, true⟩]) := hlo
    have hl1 : exF LP law12_Coast_made.L0 [(2, .ptr 0 0 11), (6, .int .i64 (n : Int)), (7, .lst false true 1 1 [.int .i64 (-1)]), (8, .lst false true 1 1 [.int .u64 1]), (9, .int .i64 1)] [⟨w, true⟩] = some (.exit 0, [(7, .sl 1 0 n n 1 1 n), (8, .sl 2 0 n n 1 1 n)], [⟨w, true⟩, ⟨ints s, true⟩, ⟨nats h, true⟩]) := by
      have hx : w[2]? = _ := hx
      simp only [List.length_cons, List.length_nil, Nat.zero_add, Nat.reduceAdd, List.cons_append, List.nil_append] at a1 a2
      rw [law12_Coast_made.L0_eq]
      simp only [law12_Coast_made.B0, beqT, beqF, exF_seq, exF_region, exF_block, exF_cond, exF_ret, exF_exit, exF_skip, runL, wantL, stepL, evL, evC, LEnv.at, putL, loadFine, loadL, cellsAt, Trk.putNew, Trk.up, Trk.touch, Trk.gives, Trk.calm, Trk.hit, opdsOf, Trk.fresh, LEnv.keep, LEnv.ofFrom, List.map_cons, List.map_nil, nbeq, nble, nblt, ofAV, ofAVs, lenL, bin_add, bin_sub, bin_mul, bin_eql, bin_neq, bin_lss, bin_leq, bin_gtr, bin_geq, natL_nat, natL_zero, natL_one, natL_two, Nat.zero_mul, List.any_cons, List.any_nil, Bool.or_false, Bool.false_or, Bool.true_or, Bool.or_true, Bool.and_true, Bool.true_and, Bool.and_false, Bool.false_and, Bool.not_true, Bool.not_false, Nat.reduceBEq, Nat.reduceEqDiff, decide_true, decide_false, cond_true, cond_false, List.filter_nil, List.filter_cons, Nat.reduceAdd, Nat.reduceLeDiff, reduceCtorEq, List.length_nil, List.length_cons, Nat.mul_one, if_true, if_false, Bool.false_eq_true, eq_self, and_true, true_and, retL, resultsL, resAllL, resOfL, List.append_nil, List.nil_append, List.cons_append, true_or, or_true, false_or, or_false, false_and, and_false, not_true_eq_false, not_false_eq_true, ne_eq, unL, trim_nil, views_pures, LV.pures, LV.pure, freeze, Nat.reduceDiv, Int.reduceEq, Int.reduceLT, Int.reduceLE, Int.natCast_zero, LV.cells, allocL, List.getElem?_cons_zero, List.getElem?_cons_succ, storeL, spliceL, List.take_zero, List.take_succ_cons, List.drop_zero, List.drop_succ_cons, List.drop_nil, List.take_nil, Nat.le_refl, Nat.reduceMul, List.set_cons_zero, List.set_cons_succ, LV.scalar, List.all_cons, List.all_nil, Nat.lt_add_one, Nat.zero_lt_one, Nat.reduceLT, Nat.lt_irrefl, fillL, List.length_append, foldIntL, kind_beq, pures_int, solids_int, plains_int, unders_int, scalars_int, show ((1 : Int) < (n : Int)) by omega, hbl, hx, hwr, hrm, a1, s1, s0, o1, a2, o2, show IntKind.i64.wrap ((1 : Int) + 1) = 2 from rfl, hlo]
    simp only [law12_Coast_made, law12_Coast_made.B, beqT, beqF, exF_seq, exF_region, exF_block, exF_cond, exF_ret, exF_exit, exF_skip, runL, wantL, stepL, evL, evC, LEnv.at, putL, loadFine, loadL, cellsAt, Trk.putNew, Trk.up, Trk.touch, Trk.gives, Trk.calm, Trk.hit, opdsOf, Trk.fresh, LEnv.keep, LEnv.ofFrom, List.map_cons, List.map_nil, nbeq, nble, nblt, ofAV, ofAVs, lenL, bin_add, bin_sub, bin_mul, bin_eql, bin_neq, bin_lss, bin_leq, bin_gtr, bin_geq, natL_nat, natL_zero, natL_one, natL_two, Nat.zero_mul, List.any_cons, List.any_nil, Bool.or_false, Bool.false_or, Bool.true_or, Bool.or_true, Bool.and_true, Bool.true_and, Bool.and_false, Bool.false_and, Bool.not_true, Bool.not_false, Nat.reduceBEq, Nat.reduceEqDiff, decide_true, decide_false, cond_true, cond_false, List.filter_nil, List.filter_cons, Nat.reduceAdd, Nat.reduceLeDiff, reduceCtorEq, List.length_nil, List.length_cons, Nat.mul_one, if_true, if_false, Bool.false_eq_true, eq_self, and_true, true_and, retL, resultsL, resAllL, resOfL, List.append_nil, List.nil_append, List.cons_append, true_or, or_true, false_or, or_false, false_and, and_false, not_true_eq_false, not_false_eq_true, ne_eq, unL, trim_nil, views_pures, LV.pures, LV.pure, freeze, Nat.reduceDiv, Int.reduceEq, Int.reduceLT, Int.reduceLE, Int.natCast_zero, LV.cells, allocL, List.getElem?_cons_zero, List.getElem?_cons_succ, storeL, spliceL, List.take_zero, List.take_succ_cons, List.drop_zero, List.drop_succ_cons, List.drop_nil, List.take_nil, Nat.le_refl, Nat.reduceMul, List.set_cons_zero, List.set_cons_succ, LV.scalar, List.all_cons, List.all_nil, Nat.lt_add_one, Nat.zero_lt_one, Nat.reduceLT, Nat.lt_irrefl, fillL, List.length_append, foldIntL, kind_beq, pures_int, solids_int, plains_int, unders_int, scalars_int, hbl, hb0, hw, hrem, hadd, hl1]

/-! ### What posts cost -/
end Go.Am.Post

/-
  What functions of chapter 12 compute, by tables 0: the last bit.
-/
set_option linter.unusedVariables false
set_option linter.unusedSimpArgs false
set_option maxRecDepth 10000
namespace Go.Am.Post
open Go.Am.G

/-- Which bit is the last one. -/
def negN (x : Nat) : Nat := 18446744073709551616 - x
def lowN (x : Nat) : Nat := x &&& negN x
def mulN (x : Nat) : Nat := lowN x * 285870213051353865 % 18446744073709551616
def tzX (x : Nat) : Nat := mulN x / 2 ^ 58
def tzI (x : Nat) : Nat := (tab1.getD (tzX x) 0).toNat
def tzChk (x : Nat) : Bool := Nat.blt (tzX x) 64 && (Nat.blt (tzI x) 10 && (Nat.beq (x &&& (x - 1)) (x - 2 ^ tzI x) && (Nat.beq (x % 2 ^ tzI x) 0 && Nat.beq (x / 2 ^ tzI x % 2) 1)))
def tzAll : Nat → Bool
  | 0 => true
  | n + 1 => cond (tzChk (n + 1)) (tzAll n) false
theorem tz_all : tzAll 1023 = true := by kernel_rfl
theorem tzAll_at : ∀ n, tzAll n = true → ∀ x, x ≤ n → x ≠ 0 → tzChk x = true
  | 0, _, x, hx, h0 => by omega
  | n + 1, h, x, hx, h0 => by
    simp only [tzAll] at h
    cases hc : tzChk (n + 1) <;> rw [hc] at h
    · cases h
    · by_cases e : x = n + 1
      · subst e; exact hc
      · exact tzAll_at n h x (by omega) h0
theorem tabNat : ∀ i, i < 64 → tab1.getD i 0 = ((tab1.getD i 0).toNat : Int) := by decide
theorem tz_mem {x t : Nat} (h3 : t < 10) (h4 : x &&& (x - 1) = x - 2 ^ t) (h5 : x % 2 ^ t = 0) (h6 : x / 2 ^ t % 2 = 1) : memL x = t :: memL (x &&& (x - 1)) := by
  rw [h4]
  have e1 : x = 2 ^ (t + 1) * (x / 2 ^ t / 2) + 2 ^ t := by
    have a1 := Nat.div_add_mod x (2 ^ t)
    have a2 := Nat.div_add_mod (x / 2 ^ t) 2
    rw [h5, Nat.add_zero] at a1
    rw [h6] at a2
    rw [Nat.pow_succ, Nat.mul_assoc]
    generalize x / 2 ^ t / 2 = k at *
    rw [← a1]
    conv => lhs; rw [← a2]
    rw [Nat.mul_add, Nat.mul_one]
  generalize x / 2 ^ t / 2 = k at *
  have e2 : x - 2 ^ t = 2 ^ (t + 1) * k := by omega
  have e3 : x = 2 ^ (t + 1) * k ||| 2 ^ t := by
    rw [← Nat.two_pow_add_eq_or_of_lt (Nat.pow_lt_pow_right (by omega) (by omega))]; exact e1
  have hb : ∀ i, x.testBit i = ((2 ^ (t + 1) * k).testBit i || decide (t = i)) := fun i => by
    rw [e3, Nat.testBit_or, Nat.testBit_two_pow]
  have hlow : ∀ i, i ≤ t → (2 ^ (t + 1) * k).testBit i = false := fun i hi => by
    rw [Nat.testBit_two_pow_mul]; simp; omega
  rw [e2]
  generalize 2 ^ (t + 1) * k = y at *
  have hup : ∀ z, up 0 (memL z) := fun z => up_filter _ (by have := up_range' 10 0; exact this)
  have hm : ∀ z i, i ∈ memL z ↔ i < 10 ∧ z.testBit i = true := fun z i => by simp [memL, memR, List.mem_filter, List.mem_range']
  have huy : up (t + 1) (memL y) := by
    have e : memL y = (memL y).filter (fun i => decide (t + 1 ≤ i)) := by
      symm
      rw [List.filter_eq_self]
      intro i hi
      have := (hm y i).1 hi
      by_cases c : i ≤ t
      · rw [hlow i c] at this; cases this.2
      · simp; omega
    have hs := up_split (t + 1) (hup y)
    have key : ∀ (l : List Nat) (j i : Nat), up j l → (∀ x ∈ l, i ≤ x) → up i l := by
      intro l j i h1 h2
      cases l with
      | nil => trivial
      | cons a r => exact ⟨h2 a (by simp), h1.2⟩
    refine key _ 0 _ (hup y) fun i hi => ?_
    rw [e] at hi
    have := (List.mem_filter.1 hi).2
    simpa using this
  refine up_ext (hup x) (show up 0 (t :: memL y) from ⟨by omega, huy⟩) fun i => ?_
  rw [hm, List.mem_cons, hm, hb]
  simp only [Bool.or_eq_true, decide_eq_true_eq]
  constructor
  · rintro ⟨a, b | b⟩
    · exact .inr ⟨a, b⟩
    · exact .inl b.symm
  · rintro (a | ⟨a, b⟩)
    · exact ⟨by omega, .inr a.symm⟩
    · exact ⟨a, .inl b⟩
theorem tz_chk {x : Nat} (h : tzChk x = true) : tzX x < 64 ∧ tzI x < 10 ∧ x &&& (x - 1) = x - 2 ^ tzI x ∧ x % 2 ^ tzI x = 0 ∧ x / 2 ^ tzI x % 2 = 1 := by
  unfold tzChk at h
  generalize tzX x = a at *
  generalize tzI x = b at *
  simp only [Bool.and_eq_true, Nat.blt_eq] at h
  obtain ⟨h1, h3, h4, h5, h6⟩ := h
  exact ⟨h1, h3, Nat.eq_of_beq_eq_true h4, Nat.eq_of_beq_eq_true h5, Nat.eq_of_beq_eq_true h6⟩
theorem tz_tab (x : Nat) (h : tzX x < 64) : tab1.getD (tzX x) 0 = ((tzI x : Nat) : Int) := by
  have := tabNat _ h
  unfold tzI
  exact this
theorem tz_at {x : Nat} (hx : x < 1024) (h0 : x ≠ 0) : tzX x < 64 ∧ tab1.getD (tzX x) 0 = ((tzI x : Nat) : Int) ∧ tzI x < 10 ∧ memL x = tzI x :: memL (x &&& (x - 1)) := by
  have h := tz_chk (tzAll_at 1023 tz_all x (Nat.le_of_lt_succ hx) h0)
  exact ⟨h.1, tz_tab x h.1, h.2.1, tz_mem h.2.1 h.2.2.1 h.2.2.2.1 h.2.2.2.2⟩
end Go.Am.Post

/-
  What functions of chapter 12 compute, by tables 1: the last bit, how many bits, sets as lists.
-/
set_option linter.unusedVariables false
set_option linter.unusedSimpArgs false
set_option maxRecDepth 10000
namespace Go.Am.Post
open Go.Am.G

/-! ### Bits: all sets of ten places are tried -/
def isI (r : Option (Mode × LV × LMem)) (t : Nat) : Bool := match r with
  | some (.P, .int .i64 n, _) => decide (n = (t : Int))
  | _ => false
theorem isI_some {r : Option (Mode × LV × LMem)} {t : Nat} (h : isI r t = true) : ∃ m, r = some (.P, .int .i64 (t : Int), m) := by
  unfold isI at h
  split at h
  · simp only [decide_eq_true_eq] at h
    subst h
    exact ⟨_, rfl⟩
  · cases h
def allUp (p : Nat → Bool) : Nat → Bool
  | 0 => true
  | n + 1 => cond (p n) (allUp p n) false
theorem allUp_at (p : Nat → Bool) : ∀ n, allUp p n = true → ∀ x, x < n → p x = true
  | 0, _, x, hx => by omega
  | n + 1, h, x, hx => by
    simp only [allUp] at h
    cases hc : p n <;> rw [hc] at h
    · cases h
    · by_cases e : x = n
      · subst e; exact hc
      · exact allUp_at p n h x (by omega)
def tzOk (x : Nat) : Bool := Nat.beq x 0 || isI (callL LP 12 n_math_bits_TrailingZeros [.int .u64 (x : Int)] []) (tzI x)
theorem tzOk_all : allUp tzOk 1024 = true := by kernel_rfl
theorem tz_c {x : Nat} (hx : x < 1024) (h0 : x ≠ 0) (m : LMem) : clF LP n_math_bits_TrailingZeros [.int .u64 (x : Int)] m = some (.P, .int .i64 (tzI x : Int), m) := by
  have h := allUp_at tzOk 1024 tzOk_all x hx
  unfold tzOk at h
  rw [Bool.or_eq_true] at h
  rcases h with h | h
  · exact absurd (Nat.eq_of_beq_eq_true h) h0
  · obtain ⟨m', h⟩ := isI_some h
    exact call_ran lp_math_bits_TrailingZeros rfl (by simp [LV.pures, LV.pure]) h m
/-! ### Sets as lists -/
theorem mem_loop (d : Nat) : ∀ (x : Nat) (l : List Nat), x < 1024 → (memL x).length = d → l.length + d ≤ 100 →
    exF LP law12_members.L0 [(0, .int .u64 (x : Int)), (3, GV 0 (ci l))] (GM (ci l)) = some (.exit 0, [(3, GV 0 (ci (l ++ memL x)))], GM (ci (l ++ memL x))) := by
  induction d with
  | zero =>
    intro x l hx hd _
    obtain rfl : x = 0 := by
      by_cases c : x = 0
      · exact c
      · rw [(tz_at hx c).2.2.2] at hd; simp at hd
    rw [law12_members.L0_eq]
    have e : memL 0 = [] := rfl
    rw [e, List.append_nil]
    simp only [law12_members.B0, beqT, beqF, exF_seq, exF_region, exF_block, exF_cond, exF_ret, exF_exit, exF_skip, runL, wantL, stepL, evL, evC, LEnv.at, putL, loadFine, loadL, cellsAt, Trk.putNew, Trk.up, Trk.touch, Trk.gives, Trk.calm, Trk.hit, opdsOf, Trk.fresh, LEnv.keep, LEnv.ofFrom, List.map_cons, List.map_nil, nbeq, nble, nblt, ofAV, ofAVs, lenL, bin_add, bin_sub, bin_mul, bin_eql, bin_neq, bin_lss, bin_leq, bin_gtr, bin_geq, natL_nat, natL_zero, natL_one, natL_two, Nat.zero_mul, List.any_cons, List.any_nil, Bool.or_false, Bool.false_or, Bool.true_or, Bool.or_true, Bool.and_true, Bool.true_and, Bool.and_false, Bool.false_and, Bool.not_true, Bool.not_false, Nat.reduceBEq, Nat.reduceEqDiff, decide_true, decide_false, cond_true, cond_false, List.filter_nil, List.filter_cons, Nat.reduceAdd, Nat.reduceLeDiff, reduceCtorEq, List.length_nil, List.length_cons, Nat.mul_one, if_true, if_false, Bool.false_eq_true, eq_self, and_true, true_and, retL, resultsL, resAllL, resOfL, List.append_nil, List.nil_append, List.cons_append, true_or, or_true, false_or, or_false, false_and, and_false, not_true_eq_false, not_false_eq_true, ne_eq, unL, trim_nil, views_pures, LV.pures, LV.pure, freeze, Nat.reduceDiv, Int.reduceEq, Int.reduceLT, Int.reduceLE, Int.natCast_zero, LV.cells, allocL, List.getElem?_cons_zero, List.getElem?_cons_succ, storeL, spliceL, List.take_zero, List.take_succ_cons, List.drop_zero, List.drop_succ_cons, List.drop_nil, List.take_nil, Nat.le_refl, Nat.reduceMul, List.set_cons_zero, List.set_cons_succ, LV.scalar, List.all_cons, List.all_nil, Nat.lt_add_one, Nat.zero_lt_one, Nat.reduceLT, Nat.lt_irrefl, fillL, List.length_append, foldIntL, kind_beq, pures_int, solids_int, plains_int, unders_int, scalars_int, Int.natCast_zero, ne_eq]
  | succ d ih =>
    intro x l hx hd hl
    have h0 : x ≠ 0 := by
      rintro rfl
      have e : memL 0 = [] := rfl
      rw [e] at hd; simp at hd
    have hx0 : ¬ (x : Int) = 0 := by omega
    have e := (tz_at hx h0).2.2.2
    rw [e] at hd ⊢
    simp only [List.length_cons] at hd
    have hy : x &&& (x - 1) < 1024 := Nat.lt_of_le_of_lt (Nat.and_le_left) hx
    have ih := ih (x &&& (x - 1)) (l ++ [tzI x]) hy (by omega) (by simp; omega)
    rw [List.append_assoc] at ih
    have ap := append_grow0 (ci l) (tzI x : Int) true (by simp; omega)
    have e2 : ci (l ++ [tzI x]) = ci l ++ [(tzI x : Int)] := by simp
    rw [← e2] at ap
    have hp := bits_pred (a := x) (by omega) (by omega)
    have ha := bits_and (a := x) (b := x - 1) (by omega) (by omega)
    have ht := tz_c hx h0
    have hvx : ∀ (x : Int) m, views m [.int .i64 x] = some ([.int .i64 x], []) := fun x m => views_pures m _ (by simp [LV.pures, LV.pure])
    rw [law12_members.L0_eq]
    generalize tzI x = t at *
    simp only [law12_members.B0, beqT, beqF, exF_seq, exF_region, exF_block, exF_cond, exF_ret, exF_exit, exF_skip, runL, wantL, stepL, evL, evC, LEnv.at, putL, loadFine, loadL, cellsAt, Trk.putNew, Trk.up, Trk.touch, Trk.gives, Trk.calm, Trk.hit, opdsOf, Trk.fresh, LEnv.keep, LEnv.ofFrom, List.map_cons, List.map_nil, nbeq, nble, nblt, ofAV, ofAVs, lenL, bin_add, bin_sub, bin_mul, bin_eql, bin_neq, bin_lss, bin_leq, bin_gtr, bin_geq, natL_nat, natL_zero, natL_one, natL_two, Nat.zero_mul, List.any_cons, List.any_nil, Bool.or_false, Bool.false_or, Bool.true_or, Bool.or_true, Bool.and_true, Bool.true_and, Bool.and_false, Bool.false_and, Bool.not_true, Bool.not_false, Nat.reduceBEq, Nat.reduceEqDiff, decide_true, decide_false, cond_true, cond_false, List.filter_nil, List.filter_cons, Nat.reduceAdd, Nat.reduceLeDiff, reduceCtorEq, List.length_nil, List.length_cons, Nat.mul_one, if_true, if_false, Bool.false_eq_true, eq_self, and_true, true_and, retL, resultsL, resAllL, resOfL, List.append_nil, List.nil_append, List.cons_append, true_or, or_true, false_or, or_false, false_and, and_false, not_true_eq_false, not_false_eq_true, ne_eq, unL, trim_nil, views_pures, LV.pures, LV.pure, freeze, Nat.reduceDiv, Int.reduceEq, Int.reduceLT, Int.reduceLE, Int.natCast_zero, LV.cells, allocL, List.getElem?_cons_zero, List.getElem?_cons_succ, storeL, spliceL, List.take_zero, List.take_succ_cons, List.drop_zero, List.drop_succ_cons, List.drop_nil, List.take_nil, Nat.le_refl, Nat.reduceMul, List.set_cons_zero, List.set_cons_succ, LV.scalar, List.all_cons, List.all_nil, Nat.lt_add_one, Nat.zero_lt_one, Nat.reduceLT, Nat.lt_irrefl, fillL, List.length_append, foldIntL, kind_beq, pures_int, solids_int, plains_int, unders_int, scalars_int, hx0, ht, ap, hp, ha]
    exact ih
end Go.Am.Post


