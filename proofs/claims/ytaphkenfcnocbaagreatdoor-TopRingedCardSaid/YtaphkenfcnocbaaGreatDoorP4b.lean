/-
  Plain model of chapter 04: families that are apart, counted. Conditions: none.
-/
import Derived.Test.YtaphkenfcnocbaaGreatDoorP4a
set_option linter.unusedVariables false
set_option linter.unusedSimpArgs false
set_option linter.deprecated false
namespace R4
open R2 (dif)
/-- what follows a corner is tried: the count, and what is used -/
def loopW (g : Nat → Nat → Nat → Option (Nat × Nat)) : List Nat → Nat → Nat → Option (Nat × Nat)
  | [], u, m => some (m, u)
  | x :: l, u, m => if 65536 ≤ u then none else match g x (u ||| 2 ^ x) m with
    | none => none
    | some (m', u') => if 65536 ≤ u' then none else loopW g l (dif u' (2 ^ x)) m'
/-- the walk: of the next cart (true; k ways are there), or on from corner n of the last of k ways (false) -/
def walkM (r c : Nat) (y t : List Nat) : Nat → Bool → Nat → Nat → Nat → Nat → Option (Nat × Nat)
  | 0, _, _, _, _, _ => none
  | f + 1, true, k, _, u, m => if 65536 ≤ u ∨ 1000000 ≤ m then none else if k = y.length then some (m + 1, u) else if bit u (y.getD k 0) = true then some (m, u) else
      match walkM r c y t f false (k + 1) (y.getD k 0) (u ||| 2 ^ (y.getD k 0)) m with
      | some (m', u') => if u' < 65536 then some (m', dif u' (2 ^ (y.getD k 0))) else none
      | none => none
  | f + 1, false, k, n, u, m => if 65536 ≤ u ∨ 1000000 ≤ m ∨ 16 ≤ n then none else
      match (if n ∈ t then walkM r c y t f true k 0 u m else some (m, u)) with
      | none => none
      | some (m1, u1) => if 65536 ≤ u1 then none else loopW (fun x u' m' => walkM r c y t f false k x u' m') (stepsM r c n u1) u1 m1
def famM (r c : Nat) (s y t : List Nat) : Option Nat := (walkM r c y t 60 true 0 0 (setOf s) 0).map (·.1)
example : famM 3 3 [] [1, 3] [5, 7] = some 3 := by decide +kernel
end R4
