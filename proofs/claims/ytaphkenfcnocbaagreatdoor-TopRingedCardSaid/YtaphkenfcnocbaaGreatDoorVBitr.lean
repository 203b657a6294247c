/-
  Bits of numbers that are not negative, over integers. Conditions: none.
  math/bits.TrailingZeros by the library's contract. Conditions: none; nothing of a program is named here.
-/
import Derived.Test.YtaphkenfcnocbaaGreatDoorVCalls
import Derived.Test.YtaphkenfcnocbaaGreatDoorP2o
import Derived.Laws.BitsAllLaws
import Derived.Test.YtaphkenfcnocbaaGreatDoorVFn
import Derived.Shelf.Spec.TrailingZeros
set_option linter.unusedVariables false
set_option linter.unusedSimpArgs false
set_option linter.deprecated false
namespace Go.V
open R2 (dif dif_bit)

theorem andNot_dif {n a b : Nat} (ha : a < 2 ^ n) (hb : b < 2 ^ n) : a &&& (2 ^ n - 1 - b) = dif a b := by
  apply Nat.eq_of_testBit_eq; intro i
  rw [dif_bit, Nat.testBit_and, show 2 ^ n - 1 - b = 2 ^ n - (b + 1) by omega, Nat.testBit_two_pow_sub_succ hb]
  by_cases hi : i < n
  · simp [hi]
  · have : a.testBit i = false := Nat.testBit_lt_two_pow (Nat.lt_of_lt_of_le ha (Nat.pow_le_pow_right (by omega) (by omega)))
    simp [this]
theorem wrap_i64 {n : Nat} (h : n < 9223372036854775808) : IntKind.i64.wrap (n : Int) = n := wrap_in (by rw [InK_i64]; omega)
theorem i64_and {a b : Nat} (ha : a < 4294967296) (hb : b < 4294967296) : bits .and .i64 (a : Int) (b : Int) = ((a &&& b : Nat) : Int) := by
  have hx : a &&& b ≤ a := Nat.and_le_left
  show IntKind.i64.wrap ((BitVec.ofInt 64 (a : Int) &&& BitVec.ofInt 64 (b : Int)).toNat : Int) = _
  rw [BitVec.toNat_and, ofInt_u64 a (by omega), ofInt_u64 b (by omega), wrap_i64 (by omega)]
theorem u64_and {a b : Nat} (ha : a < 18446744073709551616) (hb : b < 18446744073709551616) : bits .and .u64 (a : Int) (b : Int) = ((a &&& b : Nat) : Int) := u64_and_nat a b ha hb
end Go.V

namespace Go.V
open Go.Proofs Go.Shelf

theorem tz_ret {P : Program} {ρ : Ren} (L : Lays7.n27 P ρ) (hc : Callable P (ρ.f 27)) (hg : (P.globals[ρ.g 1]?).map (·.name) = some "math/bits.deBruijn64tab") (x : Nat) (hx : x < 18446744073709551616) :
    Ret P (ρ.f 27) [.val (.int .u64 x)] (.val (.int .i64 (Lib.ctz 64 x))) := by
  refine ⟨hc, fun w S vs hS hl ha => ?_⟩
  obtain ⟨v, rfl⟩ : ∃ v, vs = [v] := by
    match vs, hl with
    | [v], _ => exact ⟨v, rfl⟩
  have hv := (ha 0 _ v rfl rfl).valv
  subst hv
  obtain ⟨gl, hgl, hn⟩ := Option.map_eq_some_iff.1 hg
  refine (Any7.bits_TrailingZeros L x hx w (fun _ => (hS.2 _ gl hgl hn).2)).mono ?_
  rintro e w' ⟨rfl, rfl⟩
  exact ⟨_, _, S, rfl, rfl, .val _, rfl, rfl, ⟨rfl, Nat.le_refl _⟩, Nat.le_refl _, fun _ _ => rfl, fun _ h => h, fun _ h => .inl h, hS.1⟩
end Go.V
