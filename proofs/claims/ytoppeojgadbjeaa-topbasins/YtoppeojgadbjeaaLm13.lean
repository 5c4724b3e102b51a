/-
  THE LIST MACHINE, 13: bits; lists that grow in any memory. No statement of the seat is proved here.
-/
import Derived.Test.YtoppeojgadbjeaaLm12
set_option linter.unusedVariables false
set_option linter.unusedSimpArgs false
namespace Go.Am.G
variable [Glo]
omit [Glo] in
theorem sor {a b : Nat} (ha : a < 4294967296) (hb : b < 4294967296) : binL .or (.int .i64 (a : Int)) (.int .i64 (b : Int)) = some (.int .i64 ((a ||| b : Nat) : Int)) := by
  rw [bin_or]
  congr 2
  have h := Nat.or_lt_two_pow (n := 32) (by simpa using ha) (by simpa using hb)
  rw [BitVec.toNat_or]
  simp only [IntKind.bits,BitVec.toNat_ofInt]
  have e1 : ((a : Int) % ((2 ^ 64 : Nat) : Int)).toNat = a := by omega
  have e2 : ((b : Int) % ((2 ^ 64 : Nat) : Int)).toNat = b := by omega
  rw [e1,e2]
  exact IntWalk.i64_in _ (by omega)
omit [Glo] in
theorem sshl {i : Nat} (h : i < 32) : binL .shl (.int .i64 1) (.int .i64 (i : Int)) = some (.int .i64 ((2 ^ i : Nat) : Int)) := by
  rw [bin_shl _ _ _ _ (by omega)]
  have h2 : 2 ^ i ≤ 2 ^ 31 := Nat.pow_le_pow_right (by omega) (by omega)
  have e : Nat.min ((i : Int)).toNat IntKind.i64.bits = i := by
    show min i 64 = i; omega
  rw [e,Int.one_mul]
  have e2 : (2 : Int) ^ i = ((2 ^ i : Nat) : Int) := by rw [Int.natCast_pow]; rfl
  rw [e2]
  congr 2
  exact wrap_nat (Nat.lt_of_le_of_lt h2 (by omega))
end Go.Am.G
