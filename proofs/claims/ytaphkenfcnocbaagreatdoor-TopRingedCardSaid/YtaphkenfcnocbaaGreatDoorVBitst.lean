/-
  Bits of small numbers over integers. Conditions: none.
-/
import Derived.Test.YtaphkenfcnocbaaGreatDoorD2a
import Derived.Test.YtaphkenfcnocbaaGreatDoorM6a
import Derived.Laws.BitsAllLaws
set_option linter.unusedVariables false
set_option linter.unusedSimpArgs false
set_option linter.deprecated false
namespace Go.V
open Go.V.R6

theorem and_not8 {a b : Nat} (ha : a < 256) (hb : b < 256) : a &&& (255 - b) = dif a b := by
  apply Nat.eq_of_testBit_eq; intro i
  rw [dif_testBit, Nat.testBit_and, show 255 - b = 2 ^ 8 - (b + 1) by omega, Nat.testBit_two_pow_sub_succ (by omega : b < 2 ^ 8)]
  by_cases hi : i < 8
  · simp [hi]
  · have : a.testBit i = false := Nat.testBit_lt_two_pow (Nat.lt_of_lt_of_le (by omega : a < 2 ^ 8) (Nat.pow_le_pow_right (by omega) (by omega)))
    simp [this]
theorem bits_and8 {a b : Nat} (ha : a < 256) (hb : b < 256) : bits .and .u8 (a : Int) (b : Int) = ((a &&& b : Nat) : Int) := u8_and_nat a b ha hb
theorem bits_or8 {a b : Nat} (ha : a < 256) (hb : b < 256) : bits .or .u8 (a : Int) (b : Int) = ((a ||| b : Nat) : Int) := u8_or_nat a b ha hb
theorem bits_andNot8 {a b : Nat} (ha : a < 256) (hb : b < 256) : bits .andNot .u8 (a : Int) (b : Int) = ((dif a b : Nat) : Int) := by rw [u8_andNot_nat a b ha hb, and_not8 ha hb]
theorem cast_eq_zero (n : Nat) : ((n : Int) == 0) = (n == 0) := by rw [Bool.eq_iff_iff]; simp
theorem cast_beq (m n : Nat) : ((m : Int) == (n : Int)) = (m == n) := by rw [Bool.eq_iff_iff]; simp; omega
end Go.V
