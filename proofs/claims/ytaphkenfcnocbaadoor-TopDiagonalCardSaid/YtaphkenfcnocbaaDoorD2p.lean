/-
  Plain facts of bits for chapter 02. Conditions: none.
-/
import Derived.Test.YtaphkenfcnocbaaDoorVBitr
set_option linter.unusedVariables false
set_option linter.unusedSimpArgs false
set_option linter.deprecated false
namespace Go.V
open Go.Proofs
set_option maxRecDepth 100000
set_option maxHeartbeats 4000000

abbrev u64P (n : Nat) : PV := .val (.int .u64 n)
def oc (m : Nat) : Nat := (R2.ones m).length
theorem oc_le (m : Nat) : oc m ≤ 9 := by
  unfold oc R2.ones
  exact Nat.le_trans (List.length_filter_le _ _) (by simp)

/-! ### how many -/
theorem shr_and (x k m : Nat) (hx : x < 4294967296) (hm : m < 18446744073709551616) : bits .and .u64 ((x : Int) / 2 ^ k) (m : Int) = (((x / 2 ^ k) &&& m : Nat) : Int) := by
  rw [show ((x : Int) / 2 ^ k) = ((x / 2 ^ k : Nat) : Int) by simp]
  exact u64_and (Nat.lt_of_le_of_lt (Nat.div_le_self _ _) (by omega)) hm
theorem ctz_tz : ∀ f < 512, f ≠ 0 → Lib.ctz 64 f = R2.tz f := by decide +kernel
end Go.V
