/-
  The chapter's examples, reckoned. Conditions: none.
-/
import Derived.Test.YtlkanfakfmklbaaDoorP6v
set_option linter.unusedVariables false
set_option linter.unusedSimpArgs false
set_option linter.deprecated false
namespace Go.V.R6
def bB : Bk := [([0], [1]), ([1], [2]), ([0], [2])]
def bC : Bk := [([0, 1], [2]), ([2], [3])]
def bD : Bk := [([], [0])]
def bE : Bk := [([0], [1])]
def folTop (n : Int) (l : Bk) (set : List Int) : List Int := if asked n l set = 0 then lst (fol (openedM n l).2 (-1) (askedM n l set)) else []
def cloTop (n : Int) (l : Bk) (set : List Int) : Bool := decide (asked n l set = 0) && fol (openedM n l).2 (-1) (askedM n l set) == askedM n l set
theorem w1 : folTop 4 bC [0, 1] = [0, 1, 2, 3] ∧ asked 4 bC [0, 1] = 0 := by decide +kernel
theorem w2 : allM 3 bB = [[], [0, 1, 2], [1, 2], [2]] ∧ check 3 bB = 0 := by decide +kernel
theorem w3 : stepsM 4 bC [0, 1] 3 = ([0, 1], 0) := by decide +kernel
theorem w4 : goTop 4 bC [0, 1] [0, 1] = ([0, 1, 2, 3], 0) := by decide +kernel
theorem w5 : baseM 3 bB = [([0], [1, 2]), ([1], [2])] := by decide +kernel
theorem w6 : needM 3 bB = [2] := by decide +kernel
theorem w7 : fewM 4 bC [0, 1, 2] = [0, 1] ∧ asked 4 bC [0, 1, 2] = 0 := by decide +kernel
theorem w8 : openM 3 bB [0] = true ∧ asked 3 bB [0] = 0 := by decide +kernel
theorem w9 : openM 3 bB [0, 1] = false ∧ asked 3 bB [0, 1] = 0 := by decide +kernel
theorem w10 : cloTop 2 bD [0] = true ∧ asked 2 bD [0] = 0 := by decide +kernel
theorem w11 : sameM 3 bB 3 bE = false ∧ sameErr 3 bB 3 bE = 0 := by decide +kernel
theorem w12 : stepsM 3 bB [2] 0 = ([], 12) := by decide +kernel
end Go.V.R6
