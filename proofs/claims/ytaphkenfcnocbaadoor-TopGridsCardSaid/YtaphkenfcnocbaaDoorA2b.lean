/-
  What is drawn for the statements of chapter 02: small numbers. Conditions: none.
-/
import Derived.Test.YtaphkenfcnocbaaDoorA2
set_option linter.unusedVariables false
set_option linter.unusedSimpArgs false
set_option linter.deprecated false
namespace Go.V
open Go.Proofs
abbrev u8P (n : Nat) : PV := .val (.int .u8 n)
/-- so many small numbers -/
structure U8s (n : Nat) (A : List Nat) : Prop where
  len : A.length = n
  lt : ∀ x ∈ A, x < 256
end Go.V
