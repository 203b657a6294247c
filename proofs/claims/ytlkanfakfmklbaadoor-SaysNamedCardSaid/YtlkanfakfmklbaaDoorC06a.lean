/-
  Values of chapter 06 as pure values. Conditions: none.
-/
import Derived.Test.YtlkanfakfmklbaaDoorNamT
import Derived.Test.YtlkanfakfmklbaaDoorP6
set_option linter.unusedVariables false
set_option linter.unusedSimpArgs false
set_option linter.deprecated false
namespace Go.V
open Go.Proofs
set_option maxRecDepth 10000
set_option maxHeartbeats 1000000

abbrev errP (n : Int) : PV := .val (.int .i64 n)
abbrev boolP (b : Bool) : PV := .val (.bool b)
abbrev sentP (s : List Int × List Int) : PV := .agg [ints s.1, ints s.2]
abbrev sents (l : List (List Int × List Int)) : PV := .list .any 2 (lof sentP l)
abbrev bookP (n : Int) (l : List (List Int × List Int)) : PV := .agg [intP n, sents l]
/-- the sizes at which the contracts are proved -/
abbrev sz (n : Nat) : Prop := n ≤ 16777216
def BkOK (l : List (List Int × List Int)) : Prop := ∀ s ∈ l, sz s.1.length ∧ sz s.2.length
theorem BkOK.at {l : List (List Int × List Int)} (h : BkOK l) {k : Nat} {s : List Int × List Int} (hs : l[k]? = some s) : sz s.1.length ∧ sz s.2.length := h s (List.mem_of_getElem? hs)
theorem lof_inj {α : Type} {f : α → PV} (hf : ∀ a b, f a = f b → a = b) {l l' : List α} : lof f l = lof f l' ↔ l = l' := by
  constructor
  · intro h
    induction l generalizing l' with
    | nil => cases l' <;> simp_all [lof]
    | cons x l ih => cases l' with
      | nil => simp [lof] at h
      | cons y l' => simp only [lof, List.map_cons, List.cons.injEq] at h; rw [hf _ _ h.1, ih h.2]
  · intro h; rw [h]
@[simp] theorem lof_intP_inj {l l' : List Int} : lof intP l = lof intP l' ↔ l = l' := lof_inj (by intro a b h; simpa using h)
@[simp] theorem lof_sentP_inj {l l' : List (List Int × List Int)} : lof sentP l = lof sentP l' ↔ l = l' := lof_inj (by rintro ⟨a, b⟩ ⟨c, d⟩ h; simpa using h)
@[go_sem] theorem ints_snoc (l : List Int) (x : Int) : lof intP l ++ [.val (.int .i64 x)] = lof intP (l ++ [x]) := by simp [lof]
theorem get_some {α : Type} {l : List α} {k : Nat} (h : k < l.length) : ∃ x, l[k]? = some x := ⟨l[k], by simp [h]⟩
theorem take_all {α : Type} {l : List α} {k : Nat} (h : k ≤ l.length) (h' : ¬ k < l.length) : l.take k = l := List.take_of_length_le (by omega)

end Go.V
