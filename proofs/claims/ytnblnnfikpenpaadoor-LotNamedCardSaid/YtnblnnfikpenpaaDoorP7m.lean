/-
  Plain chapter 07: lists of places as lists of numbers, in the library's order; what is drawn. Conditions: none.
-/
import Derived.Test.YtnblnnfikpenpaaDoorP7k
import Derived.Test.YtnblnnfikpenpaaDoorP7i
set_option linter.unusedVariables false
set_option linter.unusedSimpArgs false
set_option linter.deprecated false
namespace R7
open Go.V

def ofI (l : List Nat) : List Int := l.map Int.ofNat
theorem cmpI_nat (x y : Nat) : (cmpI (x : Int) y < 0 ↔ x < y) ∧ (cmpI (x : Int) y = 0 ↔ x = y) := by
  unfold cmpI
  constructor
  · by_cases h1 : (x : Int) < y
    · rw [if_pos h1]; omega
    · rw [if_neg h1]; split <;> omega
  · by_cases h1 : (x : Int) < y
    · rw [if_pos h1]; omega
    · rw [if_neg h1]; split <;> omega
theorem cmpL_lex : ∀ {a b : List Nat}, cmpL (ofI a) (ofI b) < 0 ↔ lexB a b = true
  | [], [] => by simp [ofI, cmpL, lexB]
  | [], y :: b => by simp [ofI, cmpL, lexB]
  | x :: a, [] => by simp [ofI, cmpL, lexB]
  | x :: a, y :: b => by
    have ih := @cmpL_lex a b
    obtain ⟨h1, h2⟩ := cmpI_nat x y
    show cmpL ((x : Int) :: ofI a) ((y : Int) :: ofI b) < 0 ↔ _
    rw [cmpL_cons]
    simp only [lexB, Bool.or_eq_true, decide_eq_true_eq, Bool.and_eq_true, beq_iff_eq]
    by_cases e : x = y
    · subst e
      rw [if_neg (by rw [h2.2 rfl]; simp), ih]
      simp
    · rw [if_pos (fun h => e (h2.1 h)), h1]
      simp [e]
/-! ### what is drawn -/
def madeL (W : List Nat) (m : Nat) : List Int := (W.take m).map fun w => ((w % 1001 : Nat) : Int)
theorem madeL_length {W : List Nat} {m : Nat} (h : m ≤ W.length) : (madeL W m).length = m := by unfold madeL; rw [List.length_map, List.length_take]; omega
theorem madeL_bound {W : List Nat} {m : Nat} : ∀ x ∈ madeL W m, 0 ≤ x ∧ x ≤ 1000 := fun x hx => by
  obtain ⟨w, _, rfl⟩ := List.mem_map.1 hx; omega
end R7
