/-
  Values of chapter 06 as pure values. Conditions: none.
-/
import Derived.Test.YtaphkenfcnocbaaGreatDoorA2
import Derived.Test.YtaphkenfcnocbaaGreatDoorP6
set_option linter.unusedVariables false
set_option linter.unusedSimpArgs false
set_option linter.deprecated false
namespace Go.V
open Go.Proofs
set_option maxRecDepth 10000
set_option maxHeartbeats 1000000

abbrev sentP (s : List Int × List Int) : PV := .agg [ints s.1, ints s.2]
abbrev sents (l : List (List Int × List Int)) : PV := .list .any 2 (lof sentP l)
abbrev bookP (n : Int) (l : List (List Int × List Int)) : PV := .agg [intP n, sents l]
def BkOK (l : List (List Int × List Int)) : Prop := ∀ s ∈ l, sz s.1.length ∧ sz s.2.length
theorem BkOK.at {l : List (List Int × List Int)} (h : BkOK l) {k : Nat} {s : List Int × List Int} (hs : l[k]? = some s) : sz s.1.length ∧ sz s.2.length := h s (List.mem_of_getElem? hs)
@[simp] theorem lof_sentP_inj {l l' : List (List Int × List Int)} : lof sentP l = lof sentP l' ↔ l = l' := lof_inj (by rintro ⟨a, b⟩ ⟨c, d⟩ h; simpa using h)
@[go_sem] theorem ints_snoc (l : List Int) (x : Int) : lof intP l ++ [.val (.int .i64 x)] = lof intP (l ++ [x]) := by simp [lof]
theorem take_all {α : Type} {l : List α} {k : Nat} (h : k ≤ l.length) (h' : ¬ k < l.length) : l.take k = l := List.take_of_length_le (by omega)

end Go.V
