/-
  The layings, under the name that other texts use. Conditions: none.
-/
import Derived.Test.YtaphkenfcnocbaaGreatDoorTopGLy
set_option linter.unusedVariables false
set_option linter.unusedSimpArgs false
set_option linter.deprecated false
