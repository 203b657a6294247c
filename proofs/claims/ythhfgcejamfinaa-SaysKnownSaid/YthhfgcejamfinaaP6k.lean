/-
  More of the chapter's examples, reckoned. Conditions: none.
-/
import Derived.Test.YthhfgcejamfinaaP6w
set_option linter.unusedVariables false
set_option linter.unusedSimpArgs false
set_option linter.deprecated false
namespace Go.V.R6
def bF : Bk := [([0], [1, 2]), ([1], [2])]
theorem k1 : folTop 3 bB [0] = [0, 1, 2] ∧ asked 3 bB [0] = 0 := by decide +kernel
theorem k2 : folTop 3 bB [1] = [1, 2] ∧ asked 3 bB [1] = 0 := by decide +kernel
theorem k3 : folTop 4 bC [0, 3] = [0, 3] ∧ asked 4 bC [0, 3] = 0 := by decide +kernel
theorem k4 : folTop 2 bD [] = [0] ∧ asked 2 bD [] = 0 := by decide +kernel
theorem k5 : allM 2 bD = [[0], [0, 1]] ∧ check 2 bD = 0 := by decide +kernel
theorem k6 : stepsM 3 bB [0] 2 = ([2], 0) := by decide +kernel
theorem k7 : stepsM 3 bB [0] 0 = ([], 0) := by decide +kernel
theorem k8 : baseM 4 bC = [([0, 1], [2, 3]), ([2], [3])] ∧ check 4 bC = 0 := by decide +kernel
theorem k9 : baseM 2 bD = [([], [0])] := by decide +kernel
theorem k10 : needM 4 bC = [] := by decide +kernel
theorem k11 : fewM 4 bC [2, 3] = [2] ∧ asked 4 bC [2, 3] = 0 := by decide +kernel
theorem k12 : fewM 3 bB [0, 2] = [0] ∧ asked 3 bB [0, 2] = 0 := by decide +kernel
theorem k13 : sameM 3 bB 3 bF = true ∧ sameErr 3 bB 3 bF = 0 := by decide +kernel
theorem k14 : cloTop 3 bB [0, 1] = false ∧ asked 3 bB [0, 1] = 0 := by decide +kernel
theorem k15 : stepsM 4 bC [0, 1] 4 = ([], 2) := by decide +kernel
theorem k16 : goTop 4 bC [0, 1] [1] = ([], 12) := by decide +kernel
theorem k17 : goTop 4 bC [0, 1] [2] = ([], 2) := by decide +kernel
theorem k18 : sameErr 3 bB 4 bC = 5 := by decide +kernel
theorem k19 : asked 3 bB [0, 0] = 7 := by decide +kernel
theorem k20 : asked 3 bB [3] = 2 := by decide +kernel
theorem k21 : check 7 [] = 1 := by decide +kernel
theorem k22 : check 2 [([0], [2])] = 2 := by decide +kernel
theorem k23 : check 2 [([1, 0], [1])] = 7 := by decide +kernel
end Go.V.R6
