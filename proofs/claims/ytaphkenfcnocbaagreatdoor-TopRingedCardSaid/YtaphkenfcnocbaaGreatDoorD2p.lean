/-
  Plain facts of bits for chapter 02. Conditions: none.
-/
import Derived.Test.YtaphkenfcnocbaaGreatDoorVBitr
set_option linter.unusedVariables false
set_option linter.unusedSimpArgs false
set_option linter.deprecated false
namespace Go.V
open Go.Proofs
set_option maxRecDepth 100000
set_option maxHeartbeats 4000000

abbrev u64P (n : Nat) : PV := .val (.int .u64 n)
def oc (m : Nat) : Nat := (R2.ones m).length
theorem oc_le (m : Nat) : oc m ≤ 9 := by
  unfold oc R2.ones
  exact Nat.le_trans (List.length_filter_le _ _) (by simp)

/-! ### how many -/
theorem shr_and (x k m : Nat) (hx : x < 4294967296) (hm : m < 18446744073709551616) : bits .and .u64 ((x : Int) / 2 ^ k) (m : Int) = (((x / 2 ^ k) &&& m : Nat) : Int) := by
  rw [show ((x : Int) / 2 ^ k) = ((x / 2 ^ k : Nat) : Int) by simp]
  exact u64_and (Nat.lt_of_le_of_lt (Nat.div_le_self _ _) (by omega)) hm
def oa1 (f : Nat) : Nat := (f / 2 ^ 1 &&& 6148914691236517205) + (f &&& 6148914691236517205)
def oa2 (f : Nat) : Nat := (f / 2 ^ 2 &&& 3689348814741910323) + (f &&& 3689348814741910323)
def oa3 (f : Nat) : Nat := (f / 2 ^ 4 + f) &&& 1085102592571150095
def oa4 (k f : Nat) : Nat := f + f / 2 ^ k
theorem oa1_eq {f : Nat} (hf : f < 512) : bits .and .u64 ((f : Int) / 2 ^ 1) 6148914691236517205 + bits .and .u64 (f : Int) 6148914691236517205 = ((oa1 f : Nat) : Int) := by
  have h1 := shr_and f 1 6148914691236517205 (by omega) (by decide)
  have h2 : bits .and .u64 (f : Int) ((6148914691236517205 : Nat) : Int) = _ := u64_and (show f < 18446744073709551616 by omega) (by decide)
  unfold oa1
  rw [Int.natCast_add, ← h1, ← h2]; rfl
theorem oa1_lt {f : Nat} (hf : f < 512) : oa1 f < 8192 := by
  unfold oa1
  have := (Nat.and_le_left : (f / 2 ^ 1) &&& 6148914691236517205 ≤ f / 2 ^ 1)
  have := (Nat.and_le_left : f &&& 6148914691236517205 ≤ f)
  omega
theorem oa2_eq {f : Nat} (hf : f < 8192) : bits .and .u64 ((f : Int) / 2 ^ 2) 3689348814741910323 + bits .and .u64 (f : Int) 3689348814741910323 = ((oa2 f : Nat) : Int) := by
  have h1 := shr_and f 2 3689348814741910323 (by omega) (by decide)
  have h2 : bits .and .u64 (f : Int) ((3689348814741910323 : Nat) : Int) = _ := u64_and (show f < 18446744073709551616 by omega) (by decide)
  unfold oa2
  rw [Int.natCast_add, ← h1, ← h2]; rfl
theorem oa2_lt {f : Nat} (hf : f < 8192) : oa2 f < 16384 := by
  unfold oa2
  have := (Nat.and_le_left : (f / 2 ^ 2) &&& 3689348814741910323 ≤ f / 2 ^ 2)
  have := (Nat.and_le_left : f &&& 3689348814741910323 ≤ f)
  omega
theorem oa3_eq {f : Nat} (hf : f < 16384) : bits .and .u64 ((f : Int) / 2 ^ 4 + (f : Int)) 1085102592571150095 = ((oa3 f : Nat) : Int) := by
  rw [show ((f : Int) / 2 ^ 4 + (f : Int)) = ((f / 2 ^ 4 + f : Nat) : Int) by simp]
  exact u64_and (by omega) (by decide)
theorem oa3_lt {f : Nat} (hf : f < 16384) : oa3 f < 32768 := by
  unfold oa3
  have := (Nat.and_le_left : (f / 2 ^ 4 + f) &&& 1085102592571150095 ≤ f / 2 ^ 4 + f)
  omega
theorem oa4_eq (k f : Nat) : (f : Int) + (f : Int) / 2 ^ k = ((oa4 k f : Nat) : Int) := by simp [oa4]
theorem oa4_lt {k f n : Nat} (h : f < n) : oa4 k f < 2 * n := by
  unfold oa4
  have := Nat.div_le_self f (2 ^ k)
  omega
theorem oa_all : ∀ f < 512, oa4 32 (oa4 16 (oa4 8 (oa3 (oa2 (oa1 f))))) % 128 = oc f := by decide +kernel
theorem i64_and127 (n : Nat) (h : n < 4294967296) : bits .and .i64 (n : Int) 127 = ((n % 128 : Nat) : Int) := by
  rw [← nat_mask7]
  exact i64_and (a := n) (b := 127) h (by decide)

theorem ctz_tz : ∀ f < 512, f ≠ 0 → Lib.ctz 64 f = R2.tz f := by decide +kernel
end Go.V
