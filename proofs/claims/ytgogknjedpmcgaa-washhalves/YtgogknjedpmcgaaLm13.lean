/-
  THE LIST MACHINE, 13: bits; lists that grow in any memory. No statement of the seat is proved here.
-/
import Derived.Test.YtgogknjedpmcgaaLm12
set_option linter.unusedVariables false
set_option linter.unusedSimpArgs false
namespace Go.Am.G
/-- A list that grows, wherever it lies. -/
theorem app_any (m : LMem) (b : Nat) (l : List Int) (x : Int) (ex : Bool) (hl : l.length < 1000000) (h : l ≠ [] → m[b]? = some ⟨l.map (LV.int .i64), true⟩) :
    ∃ m' b', appendL m 1 8 (GV b l) (.lst false ex 1 1 [.int .i64 x]) = some (GV b' (l ++ [x]), m') ∧ m'[b']? = some ⟨(l ++ [x]).map (LV.int .i64), true⟩ ∧ (∀ i, i ≠ b ∨ l = [] → i < m.length → m'[i]? = m[i]?) ∧ m.length ≤ m'.length ∧ (l = [] → b' = m.length) ∧ (l ≠ [] → b' = b) := by
  by_cases hn : l = []
  · subst hn
    refine ⟨m ++ [⟨[.int .i64 x], true⟩], m.length, ?_, ?_, ?_, ?_, fun _ => rfl, fun h => absurd rfl h⟩
    · simp [appendL, contents, GV, newSl, LV.scalar, roomMost, nbeq, nble]
    · simp
    · intro i _ hi; rw [List.getElem?_append_left hi]
    · simp
  · have h1 := h hn
    have hb : b < m.length := by
      rw [List.getElem?_eq_some_iff] at h1; exact h1.1
    have h2 : contents m 1 (GV b l) = some (l.map (LV.int .i64), l.length) := by
      simp only [GV, if_neg hn, contents, h1]
      simp only [List.drop_zero, Nat.mul_one, List.length_map, Nat.zero_add, nble, nbeq, Nat.le_refl, decide_true, Bool.and_self, cond_true]
      rw [List.take_of_length_le (by simp)]
    have h3 : contents m 1 (.lst false ex 1 1 [.int .i64 x]) = some ([.int .i64 x], 1) := rfl
    have h4 : (Nat.ble ((l.length + 1) * 8) roomMost && Nat.ble (l.length + 1) roomMost && [LV.int .i64 x].all LV.scalar) = true := by rw [room_of hl]; rfl
    have h5 : Nat.ble (l.length + 1) l.length = false := by rw [nble]; simp
    have h6 : Nat.blt l.length (l.length + 1) = true := by rw [nblt]; simp
    refine ⟨m.set b ⟨(l ++ [x]).map (LV.int .i64), true⟩, b, ?_, ?_, ?_, ?_, fun h => absurd h hn, fun _ => rfl⟩
    · unfold appendL
      simp only [h2, h3, h4]
      simp only [GV, if_neg hn, h1, h5, Nat.mul_one, h6]
      simp [nbeq]
    · simp [List.getElem?_set, hb]
    · intro i hi _
      have : ¬ b = i := by
        rcases hi with c | c
        · exact fun e => c e.symm
        · exact absurd c hn
      simp [List.getElem?_set, this]
    · simp
/-! ### Bits of small numbers of the machine's own kind -/
theorem sand {a b : Nat} (ha : a < 4294967296) (hb : b < 4294967296) : binL .and (.int .i64 (a : Int)) (.int .i64 (b : Int)) = some (.int .i64 ((a &&& b : Nat) : Int)) := by
  rw [bin_and]
  congr 2
  have h := Nat.and_lt_two_pow (n := 32) a (by simpa using hb)
  rw [BitVec.toNat_and]
  simp only [IntKind.bits, BitVec.toNat_ofInt]
  have e1 : ((a : Int) % ((2 ^ 64 : Nat) : Int)).toNat = a := by omega
  have e2 : ((b : Int) % ((2 ^ 64 : Nat) : Int)).toNat = b := by omega
  rw [e1, e2]
  exact IntWalk.i64_in _ (by omega)
theorem sor {a b : Nat} (ha : a < 4294967296) (hb : b < 4294967296) : binL .or (.int .i64 (a : Int)) (.int .i64 (b : Int)) = some (.int .i64 ((a ||| b : Nat) : Int)) := by
  rw [bin_or]
  congr 2
  have h := Nat.or_lt_two_pow (n := 32) (by simpa using ha) (by simpa using hb)
  rw [BitVec.toNat_or]
  simp only [IntKind.bits, BitVec.toNat_ofInt]
  have e1 : ((a : Int) % ((2 ^ 64 : Nat) : Int)).toNat = a := by omega
  have e2 : ((b : Int) % ((2 ^ 64 : Nat) : Int)).toNat = b := by omega
  rw [e1, e2]
  exact IntWalk.i64_in _ (by omega)
theorem sand1 {a : Nat} (ha : a < 4294967296) : binL .and (.int .i64 (a : Int)) (.int .i64 1) = some (.int .i64 ((a % 2 : Nat) : Int)) := by
  have := sand (b := 1) ha (by omega)
  rw [Nat.and_one_is_mod] at this
  exact this
theorem sshl {i : Nat} (h : i < 32) : binL .shl (.int .i64 1) (.int .i64 (i : Int)) = some (.int .i64 ((2 ^ i : Nat) : Int)) := by
  rw [bin_shl _ _ _ _ (by omega)]
  have h2 : 2 ^ i ≤ 2 ^ 31 := Nat.pow_le_pow_right (by omega) (by omega)
  have e : Nat.min ((i : Int)).toNat IntKind.i64.bits = i := by
    show min i 64 = i; omega
  rw [e, Int.one_mul]
  have e2 : (2 : Int) ^ i = ((2 ^ i : Nat) : Int) := by rw [Int.natCast_pow]; rfl
  rw [e2]
  congr 2
  exact wrap_nat (Nat.lt_of_le_of_lt h2 (by omega))
theorem sshr {a i : Nat} (h : i < 64) : binL .shr (.int .i64 (a : Int)) (.int .i64 (i : Int)) = some (.int .i64 ((a / 2 ^ i : Nat) : Int)) := by
  rw [bin_shr _ _ _ _ (by omega)]
  have e : Nat.min ((i : Int)).toNat IntKind.i64.bits = i := by
    show min i 64 = i; omega
  rw [e]
  have e2 : (2 : Int) ^ i = ((2 ^ i : Nat) : Int) := by rw [Int.natCast_pow]; rfl
  rw [e2]
  congr 2
  exact (Int.ofNat_fdiv a _).symm
end Go.Am.G

