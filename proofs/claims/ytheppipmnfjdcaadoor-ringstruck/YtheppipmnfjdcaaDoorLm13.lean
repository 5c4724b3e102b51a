/-
  THE LIST MACHINE, 13: bits; lists that grow in any memory. No statement of the seat is proved here.
-/
import Derived.Test.YtheppipmnfjdcaaDoorLm12
set_option linter.unusedVariables false
set_option linter.unusedSimpArgs false
namespace Go.Am.G
variable [Glo]
def andN (a b : Nat) : Nat := (BitVec.ofNat 64 a &&& ~~~ BitVec.ofNat 64 b).toNat
omit [Glo] in
theorem andN_bit (a b i : Nat) (ha : a < 18446744073709551616) : (andN a b).testBit i = (a.testBit i && !b.testBit i) := by
  have h1 : ∀ x : Nat,(BitVec.ofNat 64 x).toNat.testBit i = (decide (i < 64) && x.testBit i) := by
    intro x
    rw [BitVec.toNat_ofNat,Nat.testBit_mod_two_pow]
  unfold andN
  rw [BitVec.toNat_and,Nat.testBit_and,h1,BitVec.testBit_toNat,BitVec.getLsbD_not,← BitVec.testBit_toNat,h1]
  by_cases h : i < 64
  · simp [h]
  · have : a.testBit i = false := Nat.testBit_lt_two_pow (Nat.lt_of_lt_of_le ha (Nat.pow_le_pow_right (n := 2) (by omega) (show 64 ≤ i by omega)))
    simp [h,this]
omit [Glo] in
theorem andN_lt (a b n : Nat) (ha : a < 2 ^ n) (hn : n ≤ 64) : andN a b < 2 ^ n := by
  refine Nat.lt_pow_two_of_testBit _ fun i hi => ?_
  rw [andN_bit a b i (Nat.lt_of_lt_of_le ha (Nat.pow_le_pow_right (n := 2) (by omega) hn)),Nat.testBit_lt_two_pow (Nat.lt_of_lt_of_le ha (Nat.pow_le_pow_right (by omega) hi))]
  rfl
omit [Glo] in
theorem bits_andNot {a b : Nat} (ha : a < 18446744073709551616) (hb : b < 18446744073709551616) : binL .andNot (.int .u64 (a : Int)) (.int .u64 (b : Int)) = some (.int .u64 ((andN a b : Nat) : Int)) := by
  have h : andN a b < 18446744073709551616 := by
    have := andN_lt a b 64 (by simpa using ha) (by omega)
    simpa using this
  have e : ∀ x : Nat,BitVec.ofInt 64 (x : Int) = BitVec.ofNat 64 x := fun x => by simp
  have e1 : binL .andNot (.int .u64 (a : Int)) (.int .u64 (b : Int)) = some (.int .u64 (IntKind.u64.wrap (((BitVec.ofInt 64 (a : Int) &&& ~~~ BitVec.ofInt 64 (b : Int)).toNat : Nat) : Int))) := by
    rfl
  rw [e1,e,e]
  congr 2
  exact IntWalk.u64_in _ (by unfold andN at h; omega)
omit [Glo] in
theorem bits_pred {a : Nat} (ha : a < 18446744073709551616) (h0 : 0 < a) : binL .sub (.int .u64 (a : Int)) (.int .u64 1) = some (.int .u64 ((a - 1 : Nat) : Int)) := by
  rw [bin_sub]
  congr 2
  rw [IntWalk.u64_in _ (by omega)]; omega
omit [Glo] in
theorem sand {a b : Nat} (ha : a < 4294967296) (hb : b < 4294967296) : binL .and (.int .i64 (a : Int)) (.int .i64 (b : Int)) = some (.int .i64 ((a &&& b : Nat) : Int)) := by
  rw [bin_and]
  congr 2
  have h := Nat.and_lt_two_pow (n := 32) a (by simpa using hb)
  rw [BitVec.toNat_and]
  simp only [IntKind.bits,BitVec.toNat_ofInt]
  have e1 : ((a : Int) % ((2 ^ 64 : Nat) : Int)).toNat = a := by omega
  have e2 : ((b : Int) % ((2 ^ 64 : Nat) : Int)).toNat = b := by omega
  rw [e1,e2]
  exact IntWalk.i64_in _ (by omega)
omit [Glo] in
theorem sor {a b : Nat} (ha : a < 4294967296) (hb : b < 4294967296) : binL .or (.int .i64 (a : Int)) (.int .i64 (b : Int)) = some (.int .i64 ((a ||| b : Nat) : Int)) := by
  rw [bin_or]
  congr 2
  have h := Nat.or_lt_two_pow (n := 32) (by simpa using ha) (by simpa using hb)
  rw [BitVec.toNat_or]
  simp only [IntKind.bits,BitVec.toNat_ofInt]
  have e1 : ((a : Int) % ((2 ^ 64 : Nat) : Int)).toNat = a := by omega
  have e2 : ((b : Int) % ((2 ^ 64 : Nat) : Int)).toNat = b := by omega
  rw [e1,e2]
  exact IntWalk.i64_in _ (by omega)
omit [Glo] in
theorem sand1 {a : Nat} (ha : a < 4294967296) : binL .and (.int .i64 (a : Int)) (.int .i64 1) = some (.int .i64 ((a % 2 : Nat) : Int)) := by
  have := sand (b := 1) ha (by omega)
  rw [Nat.and_one_is_mod] at this
  exact this
omit [Glo] in
theorem sshl {i : Nat} (h : i < 32) : binL .shl (.int .i64 1) (.int .i64 (i : Int)) = some (.int .i64 ((2 ^ i : Nat) : Int)) := by
  rw [bin_shl _ _ _ _ (by omega)]
  have h2 : 2 ^ i ≤ 2 ^ 31 := Nat.pow_le_pow_right (by omega) (by omega)
  have e : Nat.min ((i : Int)).toNat IntKind.i64.bits = i := by
    show min i 64 = i; omega
  rw [e,Int.one_mul]
  have e2 : (2 : Int) ^ i = ((2 ^ i : Nat) : Int) := by rw [Int.natCast_pow]; rfl
  rw [e2]
  congr 2
  exact wrap_nat (Nat.lt_of_le_of_lt h2 (by omega))
omit [Glo] in
theorem sshr {a i : Nat} (h : i < 64) : binL .shr (.int .i64 (a : Int)) (.int .i64 (i : Int)) = some (.int .i64 ((a / 2 ^ i : Nat) : Int)) := by
  rw [bin_shr _ _ _ _ (by omega)]
  have e : Nat.min ((i : Int)).toNat IntKind.i64.bits = i := by
    show min i 64 = i; omega
  rw [e]
  have e2 : (2 : Int) ^ i = ((2 ^ i : Nat) : Int) := by rw [Int.natCast_pow]; rfl
  rw [e2]
  congr 2
  exact (Int.ofNat_fdiv a _).symm
end Go.Am.G
