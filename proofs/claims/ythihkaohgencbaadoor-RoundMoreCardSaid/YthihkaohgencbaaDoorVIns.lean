/-
  slices.Sort and slices.Insert of a slice of numbers of the call's own, by the shelf's contracts. Conditions: none; nothing of a program is named here.
-/
import Derived.Test.YthihkaohgencbaaDoorVSort
import Derived.Shelf.Sort.Plain
import Derived.Shelf.Spec.SlicesInsert
import Derived.Shelf.Spec.SlicesInsertGrow
import Derived.Lib.SliceRun
import Derived.Lib.Builder
set_option linter.unusedVariables false
set_option linter.unusedSimpArgs false
set_option linter.deprecated false
namespace Go.V
open Go.Shelf Go.Sort Go.Proofs Go.Lib
section
variable {P : Program} {B : Base P} {N : Nat} {σ : St} {ρ : Nat → Value} {S : Nat → Prop} {w : World} {a : Act}

theorem vals_ints {l : List Int} {vals : List Value} (hl : vals.length = l.length) (hr : ∀ (i : Nat) x v, (lof intP l)[i]? = some x → vals[i]? = some v → Rel w S x v) : vals = l.map (Value.int .i64) := by
  apply List.ext_getElem (by simpa using hl)
  intro i h1 h2
  have hi : i < l.length := by omega
  have := hr i (intP l[i]) vals[i] (by simp [lof, hi]) (by simp [h1])
  rw [this.valv]; simp
theorem cells_ints (l : List Int) : cellsL (l.map (Value.int .i64)) = l.map (Value.int .i64) := by
  induction l with
  | nil => rfl
  | cons x l ih => show (Value.int .i64 x).cells.toList ++ cellsL (l.map _) = _; rw [ih]; rfl

theorem Turned.drew (w : World) (g : Option Nat) : Turned w w.drew g := ⟨rfl, rfl, ⟨rfl, Nat.le_succ _⟩, Nat.le_refl _, fun _ _ _ => rfl⟩

end
end Go.V
