import Derived.Test.YtcckhkcchpfdoaaShareD9
/-
  Plain: the greatest product leaves no envy by more than one thing, and nothing better.
-/
set_option linter.unusedVariables false
set_option linter.unusedSimpArgs false
set_option maxRecDepth 10000
set_option maxHeartbeats 400000
namespace Go.Am.Share
open Go.Am.G

/-! ### Worths by owners -/
theorem ws_add (j : Int) : ∀ (r o : List Int) (w : Int), ws j r o w = w + ws j r o 0
  | [], o, w => by simp [ws]
  | x :: r, [], w => by simp [ws]
  | x :: r, y :: o, w => by
    rw [ws, ws, ws_add j r o (if y = j then w + x else w), ws_add j r o (if y = j then 0 + x else 0)]
    split <;> omega
theorem ws_cons (j x y : Int) (r o : List Int) : ws j (x :: r) (y :: o) 0 = (if y = j then x else 0) + ws j r o 0 := by
  rw [ws, ws_add]
  split <;> omega
theorem ws_set (j i : Int) : ∀ (r o : List Int) (k : Nat), k < r.length → k < o.length → ws j r (o.set k i) 0 = ws j r o 0 - (if o.getD k 0 = j then r.getD k 0 else 0) + (if i = j then r.getD k 0 else 0)
  | [], o, k, h, _ => by simp at h
  | x :: r, [], k, _, h => by simp at h
  | x :: r, y :: o, 0, _, _ => by
    simp only [List.set_cons_zero, ws_cons, List.getD_cons_zero]
    omega
  | x :: r, y :: o, k + 1, h1, h2 => by
    have := ws_set j i r o k (by simpa using h1) (by simpa using h2)
    simp only [List.set_cons_succ, ws_cons, List.getD_cons_succ, this]
    omega
theorem ws_nonneg (j : Int) : ∀ (r o : List Int), (∀ x ∈ r, 0 ≤ x) → 0 ≤ ws j r o 0
  | [], o, _ => by simp [ws]
  | x :: r, [], _ => by simp [ws]
  | x :: r, y :: o, h => by
    have := ws_nonneg j r o (fun z hz => h z (by simp [hz]))
    have := h x (by simp)
    rw [ws_cons]
    split <;> omega
theorem wg_max (of : Int) : ∀ (r o : List Int) (a : Int × Int), a.2 ≤ (wg of r o a).2 ∧ ∀ k, k < r.length → k < o.length → o.getD k 0 = of → r.getD k 0 ≤ (wg of r o a).2
  | [], o, a => by simp [wg]
  | x :: r, [], a => by simp [wg]
  | x :: r, y :: o, a => by
    rw [wg]
    obtain ⟨h1, h2⟩ := wg_max of r o (if y = of then (a.1 + x, if x > a.2 then x else a.2) else a)
    refine ⟨?_, fun k hk1 hk2 e => ?_⟩
    · refine Int.le_trans ?_ h1
      split
      · dsimp only; split <;> omega
      · omega
    · cases k with
      | zero =>
        simp only [List.getD_cons_zero] at e ⊢
        rw [if_pos e] at h1 ⊢
        refine Int.le_trans ?_ h1
        dsimp only; split <;> omega
      | succ k =>
        simp only [List.getD_cons_succ] at e ⊢
        exact h2 k (by simpa using hk1) (by simpa using hk2) e
/-- A thing that is worth giving away. -/
theorem pick_sum (j A B : Int) (hA : 0 ≤ A) : ∀ (r1 r2 o : List Int), r1.length = o.length → r2.length = o.length → (∀ x ∈ r1, 0 ≤ x) → (∀ x ∈ r2, 0 ≤ x) → (∀ k, k < o.length → o.getD k 0 = j → 0 < r1.getD k 0 → r1.getD k 0 * B < r2.getD k 0 * A) →
    ws j r1 o 0 * B ≤ ws j r2 o 0 * A ∧ (0 < ws j r1 o 0 → ws j r1 o 0 * B < ws j r2 o 0 * A)
  | [], r2, o, h1, h2, _, _, _ => by
    obtain rfl : o = [] := List.length_eq_zero_iff.1 (by simpa using h1.symm)
    obtain rfl : r2 = [] := List.length_eq_zero_iff.1 (by simpa using h2)
    simp [ws]
  | x :: r1, [], o, h1, h2, _, _, _ => by
    exfalso
    rw [← h2] at h1
    simp at h1
  | x :: r1, z :: r2, [], h1, h2, _, _, _ => by simp at h1
  | x :: r1, z :: r2, y :: o, h1, h2, p1, p2, h => by
    obtain ⟨a, b⟩ := pick_sum j A B hA r1 r2 o (by simpa using h1) (by simpa using h2) (fun w hw => p1 w (by simp [hw])) (fun w hw => p2 w (by simp [hw])) (fun k hk e q => by
      have := h (k + 1) (by simpa using hk) (by simpa using e) (by simpa using q)
      simpa using this)
    have x0 := p1 x (by simp)
    have z0 := p2 z (by simp)
    have n1 := ws_nonneg j r1 o (fun w hw => p1 w (by simp [hw]))
    have h0 := h 0 (by simp)
    simp only [List.getD_cons_zero] at h0
    rw [ws_cons, ws_cons]
    by_cases c : y = j
    · rw [if_pos c, if_pos c, Int.add_mul, Int.add_mul]
      have hz : 0 ≤ z * A := Int.mul_nonneg z0 hA
      by_cases c2 : 0 < x
      · have := h0 c c2
        exact ⟨by omega, fun _ => by omega⟩
      · obtain rfl : x = 0 := by omega
        rw [Int.zero_mul]
        refine ⟨by omega, fun hp => ?_⟩
        have := b (by omega)
        omega
    · rw [if_neg c, if_neg c, Int.zero_add, Int.zero_add]
      exact ⟨a, b⟩
theorem pick_one (j : Int) {r1 r2 o : List Int} (h1 : r1.length = o.length) (h2 : r2.length = o.length) (p1 : ∀ x ∈ r1, 0 ≤ x) (p2 : ∀ x ∈ r2, 0 ≤ x) (hS : 0 < ws j r1 o 0) :
    ∃ k, k < o.length ∧ o.getD k 0 = j ∧ 0 < r1.getD k 0 ∧ r2.getD k 0 * ws j r1 o 0 ≤ r1.getD k 0 * ws j r2 o 0 := by
  refine Classical.byContradiction fun hc => ?_
  have := (pick_sum j (ws j r1 o 0) (ws j r2 o 0) (by omega) r1 r2 o h1 h2 p1 p2 (fun k hk e q => by
    refine Int.not_le.1 fun hle => hc ⟨k, hk, e, q, hle⟩)).2 hS
  rw [Int.mul_comm] at this
  exact Int.lt_irrefl _ this

/-! ### Scores -/
def cz (w : Int) : Int := if 0 < w then 1 else 0
def pz (w : Int) : Int := if 0 < w then w else 1
def cnt : List Int → Int
  | [] => 0
  | w :: r => cz w + cnt r
def prd : List Int → Int
  | [] => 1
  | w :: r => pz w * prd r
theorem pz_pos (w : Int) : 0 < pz w := by unfold pz; split <;> omega
theorem prd_pos : ∀ (l : List Int), 0 < prd l
  | [] => by simp [prd]
  | w :: r => Int.mul_pos (pz_pos w) (prd_pos r)
theorem prodF_eq : ∀ (l : List Int) (a : Int × Int), 0 ≤ a.1 → a.1 + l.length ≤ 1000 → (∀ w ∈ l, w ≤ 1000) → 0 ≤ a.2 → a.2 * 1000 ^ l.length ≤ 1000000000000 → prodF l a = (a.1 + cnt l, a.2 * prd l)
  | [], a, _, _, _, _, _ => by simp [prodF, cnt, prd]
  | w :: r, a, h1, h2, h3, h4, h5 => by
    simp only [List.length_cons] at h2 h5
    have w3 := h3 w (by simp)
    have hp : (1 : Int) ≤ 1000 ^ r.length := by
      have : (0 : Int) < 1000 ^ r.length := Int.pow_pos (by omega)
      omega
    rw [prodF]
    by_cases c : 0 < w
    · rw [if_pos c]
      have e1 : IntKind.i64.wrap (a.1 + 1) = a.1 + 1 := wrap_in (by omega)
      have m1 : a.2 * w ≤ a.2 * 1000 := Int.mul_le_mul_of_nonneg_left w3 h4
      have m2 : 0 ≤ a.2 * w := Int.mul_nonneg h4 (by omega)
      have m3 : a.2 * w * 1000 ^ r.length ≤ a.2 * 1000 ^ (r.length + 1) := by
        rw [Int.pow_succ, Int.mul_comm (1000 ^ r.length) 1000, ← Int.mul_assoc]
        exact Int.mul_le_mul_of_nonneg_right m1 (by omega)
      have m4 : a.2 * w ≤ a.2 * w * 1000 ^ r.length := by
        have := Int.mul_le_mul_of_nonneg_left hp m2
        omega
      have e2 : IntKind.i64.wrap (a.2 * w) = a.2 * w := wrap_in (by omega)
      rw [e1, e2, prodF_eq r _ (by dsimp only; omega) (by dsimp only; omega) (fun x hx => h3 x (by simp [hx])) m2 (by dsimp only; omega)]
      simp only [cnt, prd, cz, pz, if_pos c, Int.mul_assoc, Int.add_assoc]
    · rw [if_neg c, prodF_eq r a h1 (by omega) (fun x hx => h3 x (by simp [hx])) h4 (by
        refine Int.le_trans ?_ h5
        rw [Int.pow_succ, ← Int.mul_assoc]
        have : 0 ≤ a.2 * 1000 ^ r.length := Int.mul_nonneg h4 (by omega)
        omega)]
      simp only [cnt, prd, cz, pz, if_neg c, Int.one_mul, Int.zero_add]
theorem prodO_eq {V : List (List Int)} (o : List Int) (h4 : V.length ≤ 4) (hb : ∀ w ∈ ownL V o 0 V.length, w ≤ 1000) : prodO V o = (cnt (ownL V o 0 V.length), prd (ownL V o 0 V.length)) := by
  have hl := ownL_length V o 0 V.length
  unfold prodO
  rw [prodF_eq _ _ (by simp) (by simp only [hl]; omega) hb (by simp) (by
    rw [hl, Int.one_mul]
    have h : V.length = 0 ∨ V.length = 1 ∨ V.length = 2 ∨ V.length = 3 ∨ V.length = 4 := by omega
    rcases h with h | h | h | h | h <;> rw [h] <;> decide)]
  simp
def sLt (a b : List Int) : Prop := cnt a < cnt b ∨ (cnt a = cnt b ∧ prd a < prd b)
theorem gtP_sLt {a b : List Int} : gtP (cnt a, prd a) (cnt b, prd b) = true ↔ sLt b a := by
  unfold gtP sLt
  simp only [Bool.or_eq_true, Bool.and_eq_true, decide_eq_true_eq]
  omega
/-- Who is better has a greater score. -/
theorem btR_score : ∀ (a b : List Int) (m m' : Bool), a.length = b.length → (∀ x ∈ b, 0 ≤ x) → btR a b m = some m' → (cnt b < cnt a ∨ (cnt b = cnt a ∧ prd b ≤ prd a)) ∧ (m = false → m' = true → sLt b a)
  | [], [], m, m', _, _, h => by
    have : m = m' := by simpa [btR] using h
    subst this
    exact ⟨.inr ⟨rfl, Int.le_refl _⟩, fun h1 h2 => by rw [h1] at h2; cases h2⟩
  | [], y :: ys, m, m', hl, _, _ => by simp at hl
  | x :: xs, [], m, m', hl, _, _ => by simp at hl
  | x :: xs, y :: ys, m, m', hl, hn, h => by
    rw [btR] at h
    have y0 := hn y (by simp)
    by_cases c : x < y
    · rw [if_pos c] at h; cases h
    · rw [if_neg c] at h
      obtain ⟨i1, i2⟩ := btR_score xs ys _ m' (by simpa using hl) (fun z hz => hn z (by simp [hz])) h
      have p1 := prd_pos xs
      have p2 := prd_pos ys
      unfold sLt at i2 ⊢
      simp only [cnt, prd]
      by_cases c2 : y < x
      · have hcx : cz x = 1 := by unfold cz; rw [if_pos (by omega)]
        have hpx : pz x = x := by unfold pz; rw [if_pos (by omega)]
        by_cases c3 : 0 < y
        · have hcy : cz y = 1 := by unfold cz; rw [if_pos c3]
          have hpy : pz y = y := by unfold pz; rw [if_pos c3]
          rw [hcx, hpx, hcy, hpy]
          have key : prd ys ≤ prd xs → y * prd ys < x * prd xs := fun hle => by
            have a1 : y * prd ys ≤ y * prd xs := Int.mul_le_mul_of_nonneg_left hle (by omega)
            have a2 : y * prd xs < x * prd xs := Int.mul_lt_mul_of_pos_right c2 p1
            omega
          rcases i1 with q | ⟨q1, q2⟩
          · exact ⟨.inl (by omega), fun _ _ => .inl (by omega)⟩
          · have := key q2
            exact ⟨.inr ⟨by omega, by omega⟩, fun _ _ => .inr ⟨by omega, this⟩⟩
        · have hcy : cz y = 0 := by unfold cz; rw [if_neg c3]
          rw [hcx, hcy]
          rcases i1 with q | ⟨q1, q2⟩
          · exact ⟨.inl (by omega), fun _ _ => .inl (by omega)⟩
          · exact ⟨.inl (by omega), fun _ _ => .inl (by omega)⟩
      · obtain rfl : x = y := by omega
        have hz := pz_pos x
        refine ⟨?_, fun hm hm' => ?_⟩
        · rcases i1 with q | ⟨q1, q2⟩
          · exact .inl (by omega)
          · exact .inr ⟨by omega, Int.mul_le_mul_of_nonneg_left q2 (by omega)⟩
        · rcases i2 (by rw [hm]; simp) hm' with q | ⟨q1, q2⟩
          · exact .inl (by omega)
          · exact .inr ⟨by omega, Int.mul_lt_mul_of_pos_left q2 hz⟩
theorem better_score {V : List (List Int)} {a b : List Int} (hb : ∀ w ∈ ownL V b 0 V.length, 0 ≤ w) (h : better V a b = true) : sLt (ownL V b 0 V.length) (ownL V a 0 V.length) := by
  unfold better at h
  rw [betL_R] at h
  cases hr : btR (ownL V a 0 V.length) (ownL V b 0 V.length) false with
  | none => rw [hr] at h; cases h
  | some v =>
    rw [hr] at h
    have hv : v = true := h
    subst hv
    exact (btR_score _ _ _ _ (by simp [ownL]) hb hr).2 rfl rfl

/-! ### The greatest -/
theorem gtP_trans {a b c : Int × Int} (h1 : gtP b c = true) (h2 : gtP b a = false) : gtP c a = false := by
  unfold gtP at *
  simp only [Bool.or_eq_true, Bool.and_eq_true, decide_eq_true_eq, Bool.or_eq_false_iff, Bool.and_eq_false_iff, decide_eq_false_iff_not] at *
  omega
theorem gtP_trans2 {a b c : Int × Int} (h1 : gtP c b = false) (h2 : gtP b a = false) : gtP c a = false := by
  unfold gtP at *
  simp only [Bool.or_eq_true, Bool.and_eq_true, decide_eq_true_eq, Bool.or_eq_false_iff, Bool.and_eq_false_iff, decide_eq_false_iff_not] at *
  omega
theorem mostF_ok (V : List (List Int)) : ∀ (r : List (List Int)) (b : List Int), mostF V b r ∈ b :: r ∧ ∀ q ∈ b :: r, gtP (prodO V q) (prodO V (mostF V b r)) = false
  | [], b => by
    refine ⟨by simp [mostF], fun q hq => ?_⟩
    obtain rfl : q = b := by simpa using hq
    simp [mostF, gtP]
  | x :: xs, b => by
    rw [mostF]
    by_cases c : gtP (prodO V x) (prodO V b) = true
    · rw [if_pos c]
      obtain ⟨h1, h2⟩ := mostF_ok V xs x
      refine ⟨List.mem_cons_of_mem _ h1, fun q hq => ?_⟩
      rcases List.mem_cons.1 hq with rfl | hq
      · exact gtP_trans c (h2 x (by simp))
      · exact h2 q hq
    · rw [if_neg c]
      obtain ⟨h1, h2⟩ := mostF_ok V xs b
      refine ⟨?_, fun q hq => ?_⟩
      · rcases List.mem_cons.1 h1 with h | h
        · rw [h]; simp
        · exact List.mem_cons_of_mem _ (List.mem_cons_of_mem _ h)
      · rcases List.mem_cons.1 hq with rfl | hq
        · exact h2 q (by simp)
        · rcases List.mem_cons.1 hq with rfl | hq
          · exact gtP_trans2 (by simpa using c) (h2 b (by simp))
          · exact h2 q (by simp [hq])

/-! ### A thing is moved -/
theorem move_arith {a b x y S : Int} (ha : 0 ≤ a) (hy : 0 ≤ y) (hyb : y ≤ b) (hx : 0 < x) (hS : a + x < S) (hxy : y * S ≤ x * b) {R : Int} (hR : 0 < R) :
    cz a + cz b < cz (a + x) + cz (b - y) ∨ (cz a + cz b = cz (a + x) + cz (b - y) ∧ pz a * (pz b * R) < pz (a + x) * (pz (b - y) * R)) := by
  have hax : 0 < a + x := by omega
  have c1 : cz (a + x) = 1 := by unfold cz; rw [if_pos hax]
  have p1 : pz (a + x) = a + x := by unfold pz; rw [if_pos hax]
  rw [c1, p1]
  by_cases h : 0 < b - y
  · have c2 : cz (b - y) = 1 := by unfold cz; rw [if_pos h]
    have p2 : pz (b - y) = b - y := by unfold pz; rw [if_pos h]
    have c3 : cz b = 1 := by unfold cz; rw [if_pos (by omega)]
    have p3 : pz b = b := by unfold pz; rw [if_pos (by omega)]
    rw [c2, p2, c3, p3]
    by_cases h0 : 0 < a
    · have c4 : cz a = 1 := by unfold cz; rw [if_pos h0]
      have p4 : pz a = a := by unfold pz; rw [if_pos h0]
      rw [c4, p4]
      right
      refine ⟨rfl, ?_⟩
      rw [← Int.mul_assoc, ← Int.mul_assoc]
      refine Int.mul_lt_mul_of_pos_right ?_ hR
      have key : y * (a + x) < x * b := by
        by_cases hy0 : 0 < y
        · exact Int.lt_of_lt_of_le (Int.mul_lt_mul_of_pos_left hS hy0) hxy
        · obtain rfl : y = 0 := by omega
          rw [Int.zero_mul]
          exact Int.mul_pos hx (by omega)
      rw [Int.mul_sub, Int.add_mul, Int.mul_comm (a + x) y]
      omega
    · have c4 : cz a = 0 := by unfold cz; rw [if_neg h0]
      rw [c4]
      left
      omega
  · obtain rfl : y = b := by omega
    have hb0 : y = 0 := by
      refine Classical.byContradiction fun hc => ?_
      have hp : 0 < y := by omega
      have := Int.mul_lt_mul_of_pos_left (show x < S by omega) hp
      rw [Int.mul_comm y x] at this
      omega
    subst hb0
    have c2 : cz 0 = 0 := rfl
    have p2 : pz 0 = 1 := rfl
    rw [Int.sub_zero, c2, p2, Int.one_mul]
    by_cases h0 : 0 < a
    · have c4 : cz a = 1 := by unfold cz; rw [if_pos h0]
      have p4 : pz a = a := by unfold pz; rw [if_pos h0]
      rw [c4, p4]
      right
      exact ⟨rfl, Int.mul_lt_mul_of_pos_right (by omega) hR⟩
    · have c4 : cz a = 0 := by unfold cz; rw [if_neg h0]
      rw [c4]
      left
      omega
def upd (f : Nat → Int) (i : Nat) : Nat → Int := fun m => if m = i then 0 else f m
theorem split_at (f : Nat → Int) (i : Nat) : ∀ (n k : Nat), k ≤ i → i < k + n → cnt ((List.range' k n).map f) = cz (f i) + cnt ((List.range' k n).map (upd f i)) ∧ prd ((List.range' k n).map f) = pz (f i) * prd ((List.range' k n).map (upd f i))
  | 0, k, h1, h2 => by omega
  | n + 1, k, h1, h2 => by
    rw [List.range'_succ, List.map_cons, List.map_cons]
    simp only [cnt, prd]
    by_cases c : k = i
    · subst c
      have e : (List.range' (k + 1) n).map (upd f k) = (List.range' (k + 1) n).map f := by
        refine List.map_congr_left fun m hm => ?_
        have := List.mem_range'_1.1 hm
        unfold upd
        rw [if_neg (by omega)]
      have e0 : upd f k k = 0 := by simp [upd]
      rw [e, e0]
      simp [cz, pz]
    · obtain ⟨a, b⟩ := split_at f i n (k + 1) (by omega) (by omega)
      have e0 : upd f i k = f k := by unfold upd; rw [if_neg c]
      rw [e0, a, b]
      refine ⟨by omega, ?_⟩
      rw [← Int.mul_assoc, ← Int.mul_assoc, Int.mul_comm (pz (f k))]
theorem cnt_range (f : Nat → Int) (i j : Nat) (n : Nat) (hi : i < n) (hj : j < n) (hij : i ≠ j) : cnt ((List.range' 0 n).map f) = cz (f i) + cz (f j) + cnt ((List.range' 0 n).map (upd (upd f i) j)) ∧ prd ((List.range' 0 n).map f) = pz (f i) * (pz (f j) * prd ((List.range' 0 n).map (upd (upd f i) j))) := by
  obtain ⟨a, b⟩ := split_at f i n 0 (by omega) (by omega)
  obtain ⟨c, d⟩ := split_at (upd f i) j n 0 (by omega) (by omega)
  have e : upd f i j = f j := by unfold upd; rw [if_neg (by omega)]
  rw [e] at c d
  rw [a, b, c, d]
  exact ⟨by omega, rfl⟩
/-- The greatest product leaves no envy by more than one thing. -/
theorem most_ef1 {V : List (List Int)} {L : Nat} (h4 : V.length ≤ 4) (hL : L ≤ 6) (hV : ∀ i, i < V.length → (V.getD i []).length = L ∧ Ok20 (V.getD i [])) {o : List Int} (ho : o.length = L) (hr : ∀ x ∈ o, 0 ≤ x ∧ x < (V.length : Int))
    (hm : ∀ q : List Int, q.length = L → (∀ x ∈ q, 0 ≤ x ∧ x < (V.length : Int)) → gtP (prodO V q) (prodO V o) = false) : PX V o = [] := by
  have hbd : ∀ q : List Int, ∀ w ∈ ownL V q 0 V.length, 0 ≤ w ∧ w ≤ 1000 := fun q w hw => by
    simp only [ownL, List.mem_map, List.mem_range'_1] at hw
    obtain ⟨i, hi, rfl⟩ := hw
    obtain ⟨h1, h2⟩ := hV i (by omega)
    have := ws_bound (i : Int) (V.getD i []) q 0 h2 (by omega)
    omega
  refine Classical.byContradiction fun hne => ?_
  obtain ⟨p, hp⟩ := List.exists_mem_of_ne_nil _ hne
  unfold PX outer inner at hp
  simp only [List.mem_flatMap, List.mem_map, List.mem_filter, List.mem_range'_1, decide_eq_true_eq] at hp
  obtain ⟨i, ⟨_, hi⟩, j, ⟨⟨_, hj⟩, hx⟩, _⟩ := hp
  have hi : i < V.length := by omega
  have hj : j < V.length := by omega
  obtain ⟨li, oki⟩ := hV i hi
  obtain ⟨lj, okj⟩ := hV j hj
  have pi : ∀ x ∈ V.getD i [], 0 ≤ x := fun x hx => (oki x hx).1
  have pj : ∀ x ∈ V.getD j [], 0 ≤ x := fun x hx => (okj x hx).1
  obtain ⟨g0, gm⟩ := wg_max (j : Int) (V.getD i []) o (0, 0)
  unfold eX at hx
  have a0 := ws_nonneg (i : Int) (V.getD i []) o pi
  have b0 := ws_nonneg (j : Int) (V.getD j []) o pj
  have hij : i ≠ j := fun e => by subst e; simp only at g0; omega
  simp only at g0
  obtain ⟨k, hk, ek, xk, hxy⟩ := pick_one (j : Int) (r1 := V.getD i []) (r2 := V.getD j []) (o := o) (by omega) (by omega) pi pj (by omega)
  have gk := gm k (by omega) hk ek
  have y0 : 0 ≤ (V.getD j []).getD k 0 := by
    rw [List.getD_eq_getElem?_getD, List.getElem?_eq_getElem (by omega)]
    exact pj _ (List.getElem_mem _)
  -- what the division becomes
  have hij' : ¬ ((i : Int) = (j : Int)) := by omega
  have hji' : ¬ ((j : Int) = (i : Int)) := by omega
  have ei := ws_set (i : Int) (i : Int) (V.getD i []) o k (by omega) hk
  have ej := ws_set (j : Int) (i : Int) (V.getD j []) o k (by omega) hk
  rw [ek, if_neg hji', if_pos rfl, Int.sub_zero] at ei
  rw [ek, if_pos rfl, if_neg hij', Int.add_zero] at ej
  have n1 := ws_nonneg (j : Int) (V.getD j []) (o.set k (i : Int)) pj
  rw [ej] at n1
  have hq : gtP (prodO V (o.set k (i : Int))) (prodO V o) = false := hm _ (by rw [List.length_set]; exact ho) (fun x hx => by
    rcases List.mem_or_eq_of_mem_set hx with h | rfl
    · exact hr x h
    · omega)
  have hgt : gtP (prodO V (o.set k (i : Int))) (prodO V o) = true := by
    rw [prodO_eq _ h4 (fun w hw => (hbd _ w hw).2), prodO_eq _ h4 (fun w hw => (hbd _ w hw).2), gtP_sLt]
    unfold sLt ownL
    obtain ⟨c1, d1⟩ := cnt_range (fun m : Nat => ws (m : Int) (V.getD m []) o 0) i j V.length hi hj hij
    obtain ⟨c2, d2⟩ := cnt_range (fun m : Nat => ws (m : Int) (V.getD m []) (o.set k (i : Int)) 0) i j V.length hi hj hij
    have eR : (List.range' 0 V.length).map (upd (upd (fun m : Nat => ws (m : Int) (V.getD m []) (o.set k (i : Int)) 0) i) j) = (List.range' 0 V.length).map (upd (upd (fun m : Nat => ws (m : Int) (V.getD m []) o 0) i) j) := by
      refine List.map_congr_left fun m hm => ?_
      have hm2 := List.mem_range'_1.1 hm
      unfold upd
      by_cases c : m = j
      · rw [if_pos c, if_pos c]
      · rw [if_neg c, if_neg c]
        by_cases d : m = i
        · rw [if_pos d, if_pos d]
        · rw [if_neg d, if_neg d]
          have lm := (hV m (by omega)).1
          show ws (m : Int) (V.getD m []) (o.set k (i : Int)) 0 = ws (m : Int) (V.getD m []) o 0
          rw [ws_set (m : Int) (i : Int) (V.getD m []) o k (by omega) hk, ek, if_neg (by omega), if_neg (by omega)]
          omega
    rw [eR] at c2 d2
    rw [c1, d1, c2, d2, ei, ej]
    have hpos := prd_pos ((List.range' 0 V.length).map (upd (upd (fun m : Nat => ws (m : Int) (V.getD m []) o 0) i) j))
    generalize prd ((List.range' 0 V.length).map (upd (upd (fun m : Nat => ws (m : Int) (V.getD m []) o 0) i) j)) = R at *
    generalize cnt ((List.range' 0 V.length).map (upd (upd (fun m : Nat => ws (m : Int) (V.getD m []) o 0) i) j)) = C at *
    rcases move_arith a0 y0 (by omega) xk (S := ws (j : Int) (V.getD i []) o 0) (by omega) hxy hpos with h | ⟨h1, h2⟩
    · exact .inl (by omega)
    · exact .inr ⟨by omega, h2⟩
  rw [hq] at hgt
  cases hgt
end Go.Am.Share

/-
  What functions of chapter 07 compute, outright 12: the law 'ShareBetter': one division.
-/
set_option linter.unusedVariables false
set_option linter.unusedSimpArgs false
set_option maxRecDepth 10000
set_option maxHeartbeats 400000
namespace Go.Am.Share
open Go.Am.G

end Go.Am.Share

/-
  What functions of chapter 07 compute, outright 13: the law 'ShareBetter': from better to better ones.
-/
set_option linter.unusedVariables false
set_option linter.unusedSimpArgs false
set_option maxRecDepth 10000
set_option maxHeartbeats 400000
namespace Go.Am.Share
open Go.Am.G

/-- What the program's better division is. -/
structure BetOk (rs : List Row) (L : Nat) : Prop where
  hD : ∀ o : List Int, o.length = L → (∀ x ∈ o, 0 ≤ x ∧ x < (rs.length : Int)) → LOk rs o
  hdv : ∀ o : List Int, o.length = L → (∀ x ∈ o, 0 ≤ x ∧ x < (rs.length : Int)) → divE (vals rs) o = 0
  pos : 0 < rs.length
  le4 : rs.length ≤ 4
  hV0 : ((vals rs).getD 0 []).length = L
theorem betterV_eq {rs : List Row} {L : Nat} (B : BetOk rs L) {o : List Int} (ho : o.length = L) (hr : ∀ x ∈ o, 0 ≤ x ∧ x < (rs.length : Int)) :
    betterV (vals rs) o = ((allR rs.length L).find? fun q => better (vals rs) q o).getD [] ∧ betterE (vals rs) o = if (allR rs.length L).find? (fun q => better (vals rs) q o) = none then 13 else 0 := by
  have hd := B.hdv o ho hr
  unfold betterV betterE
  rw [if_pos hd, if_neg (by simpa using hd), vals_length, B.hV0, allR_D]
  exact ⟨rfl, rfl⟩
end Go.Am.Share

/-
  What functions of chapter 07 compute, outright 14: the law 'ShareBetter', joined.
-/
set_option linter.unusedVariables false
set_option linter.unusedSimpArgs false
set_option maxRecDepth 10000
set_option maxHeartbeats 400000
namespace Go.Am.Share
open Go.Am.G

end Go.Am.Share

/-
  What functions of chapter 07 compute, outright 15: the law 'ShareBetter', joined.
-/
set_option linter.unusedVariables false
set_option linter.unusedSimpArgs false
set_option maxRecDepth 10000
set_option maxHeartbeats 400000
namespace Go.Am.Share
open Go.Am.G

end Go.Am.Share


