import Derived.Test.YtmneioafbkknhaaPS22
/- PS26: the bits of small numbers. -/
set_option linter.unusedVariables false
namespace Go.PS
open Go Go.RowKit
theorem andI_nat (a b : Nat) (ha : a < 9223372036854775808) (hb : b < 9223372036854775808) : andI (a : Int) (b : Int) = ((a &&& b : Nat) : Int) := by
  have hx : a &&& b < 2 ^ 63 := Nat.and_lt_two_pow _ (by omega)
  have h1 : (BitVec.ofInt 64 (a : Int)).toNat = a := by
    rw [BitVec.ofInt_natCast, BitVec.toNat_ofNat]; exact Nat.mod_eq_of_lt (by omega)
  have h2 : (BitVec.ofInt 64 (b : Int)).toNat = b := by
    rw [BitVec.ofInt_natCast, BitVec.toNat_ofNat]; exact Nat.mod_eq_of_lt (by omega)
  show IntKind.i64.wrap ((BitVec.ofInt 64 (a : Int) &&& BitVec.ofInt 64 (b : Int)).toNat : Int) = _
  rw [BitVec.toNat_and, h1, h2, IntKind.wrap_i64]
  omega
theorem shrI_nat (a n : Nat) (h : n ≤ 64) : shrI (a : Int) n = ((a >>> n : Nat) : Int) := by
  have e : min n IntKind.i64.bits = n := by
    show min n 64 = n
    omega
  unfold shrI
  rw [e, Nat.shiftRight_eq_div_pow]
  have h2 : ((2 : Int) ^ n) = ((2 ^ n : Nat) : Int) := by simp
  rw [h2]
  exact (Int.ofNat_fdiv a (2 ^ n)).symm
theorem and1 (a : Nat) (ha : a < 9223372036854775808) (n : Nat) (h : n ≤ 64) : andI (shrI (a : Int) n) 1 = if a.testBit n then 1 else 0 := by
  rw [shrI_nat a n h]
  have h1 : a >>> n < 9223372036854775808 := Nat.lt_of_le_of_lt (by rw [Nat.shiftRight_eq_div_pow]; exact Nat.div_le_self _ _) ha
  have := andI_nat (a >>> n) 1 h1 (by omega)
  rw [show ((1 : Nat) : Int) = 1 from rfl] at this
  rw [this, Nat.testBit, Nat.and_comm 1]
  have h2 : a >>> n &&& 1 = (a >>> n) % 2 := Nat.and_one_is_mod _
  rw [h2]
  rcases Nat.mod_two_eq_zero_or_one (a >>> n) with e | e <;> rw [e] <;> rfl
end Go.PS
