/-
  What is drawn for the tops: small numbers, orders. Conditions: none.
-/
import Derived.Test.YtaphkenfcnocbaaGreatDoorD2a
import Derived.Test.YtaphkenfcnocbaaGreatDoorVIns
import Derived.Test.YtaphkenfcnocbaaGreatDoorRndLy
import Derived.Test.YtaphkenfcnocbaaGreatDoorP2j
set_option linter.unusedVariables false
set_option linter.unusedSimpArgs false
set_option linter.deprecated false
namespace Go.V
open Go.Proofs
set_option maxRecDepth 100000
set_option maxHeartbeats 4000000

@[simp] theorem lof_u8P_inj {l l' : List Nat} : lof u8P l = lof u8P l' ↔ l = l' := lof_inj (by intro a b h; simp at h; omega)
theorem emod_nat (a b : Nat) : (a : Int) % (b : Int) = ((a % b : Nat) : Int) := (Int.natCast_emod a b).symm
theorem ofN_snoc (l : List Nat) (x : Nat) : lof intP (ofN l) ++ [natP x] = lof intP (ofN (l ++ [x])) := by simp [lof, ofN]
end Go.V
