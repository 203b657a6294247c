/-
  Plain model of chapter 04: parishes, sets of corners, ways. Conditions: none.
-/
import Derived.Test.YtaphkenfcnocbaaGreatDoorP2o
set_option linter.unusedVariables false
set_option linter.unusedSimpArgs false
set_option linter.deprecated false
namespace R4
open R2 (dif)

def setOf (l : List Nat) : Nat := l.foldl (fun o n => o ||| 2 ^ n) 0
def bit (s n : Nat) : Bool := s / 2 ^ n % 2 == 1
/-- the corners that follow one: the one on its right -/
def step1 (r c n but : Nat) : List Nat := if ((n + 1) % c = 0 ∧ 1 < c) ∨ r * c ≤ n + 1 ∨ bit but (n + 1) = true then [] else [n + 1]
/-- and the one below it -/
def stepsM (r c n but : Nat) : List Nat := if (c = 1 ∧ 0 < (step1 r c n but).length) ∨ r * c ≤ n + c ∨ bit but (n + c) = true then step1 r c n but else step1 r c n but ++ [n + c]
/-- ways are added -/
def addW (o : List Nat) (n : Nat) (ms : List Nat) : List Nat := ms.foldl (fun o m => o.set n (o.getD n 0 + o.getD m 0)) o
/-- the ways from each corner to one: so many corners are done, from the last one back -/
def stepW (r c shut to k : Nat) (o : List Nat) : List Nat := if bit shut (to - k) = true then o else if k = 0 then o.set (to - k) 1 else addW o (to - k) (stepsM r c (to - k) shut)
def countM (r c shut to : Nat) : Nat → List Nat
  | 0 => List.replicate (r * c) 0
  | k + 1 => stepW r c shut to k (countM r c shut to k)
def ways (r c : Nat) (shut : List Nat) (frm to : Nat) : Nat := (countM r c (setOf shut) to (to + 1)).getD frm 0
theorem steps_len (r c n but : Nat) : (stepsM r c n but).length ≤ 2 := by
  have h1 : (step1 r c n but).length ≤ 1 := by unfold step1; split <;> simp
  unfold stepsM
  split
  · omega
  · rw [List.length_append]; simp; omega
theorem steps_lt {r c n but : Nat} : ∀ m ∈ stepsM r c n but, m < r * c := by
  have h1 : ∀ m ∈ step1 r c n but, m < r * c := fun m hm => by
    unfold step1 at hm
    split at hm
    · simp at hm
    · simp at hm; omega
  intro m hm
  unfold stepsM at hm
  split at hm
  · exact h1 m hm
  · rename_i h
    rw [List.mem_append] at hm
    rcases hm with hm | hm
    · exact h1 m hm
    · simp at hm; omega
end R4
