/-
  Plain model of chapter 04: parishes, sets of corners, ways. Conditions: none.
-/
import Derived.Test.YtaphkenfcnocbaaDoorP2o
set_option linter.unusedVariables false
set_option linter.unusedSimpArgs false
set_option linter.deprecated false
namespace R4
open R2 (dif)

def setOf (l : List Nat) : Nat := l.foldl (fun o n => o ||| 2 ^ n) 0
def bit (s n : Nat) : Bool := s / 2 ^ n % 2 == 1
/-- the corners that follow one: the one on its right -/
def step1 (r c n but : Nat) : List Nat := if ((n + 1) % c = 0 ∧ 1 < c) ∨ r * c ≤ n + 1 ∨ bit but (n + 1) = true then [] else [n + 1]
/-- and the one below it -/
def stepsM (r c n but : Nat) : List Nat := if (c = 1 ∧ 0 < (step1 r c n but).length) ∨ r * c ≤ n + c ∨ bit but (n + c) = true then step1 r c n but else step1 r c n but ++ [n + c]
/-- ways are added -/
def addW (o : List Nat) (n : Nat) (ms : List Nat) : List Nat := ms.foldl (fun o m => o.set n (o.getD n 0 + o.getD m 0)) o
/-- the ways from each corner to one: so many corners are done, from the last one back -/
def stepW (r c shut to k : Nat) (o : List Nat) : List Nat := if bit shut (to - k) = true then o else if k = 0 then o.set (to - k) 1 else addW o (to - k) (stepsM r c (to - k) shut)
def countM (r c shut to : Nat) : Nat → List Nat
  | 0 => List.replicate (r * c) 0
  | k + 1 => stepW r c shut to k (countM r c shut to k)
def ways (r c : Nat) (shut : List Nat) (frm to : Nat) : Nat := (countM r c (setOf shut) to (to + 1)).getD frm 0
theorem addW_snoc (o : List Nat) (n : Nat) (l : List Nat) (m : Nat) : addW o n (l ++ [m]) = (addW o n l).set n ((addW o n l).getD n 0 + (addW o n l).getD m 0) := by unfold addW; rw [List.foldl_append]; rfl
theorem addW_length (o : List Nat) (n : Nat) (l : List Nat) : (addW o n l).length = o.length := by
  unfold addW
  induction l generalizing o with
  | nil => rfl
  | cons m l ih => rw [List.foldl_cons, ih]; simp
def Bnd (b : Nat) (o : List Nat) : Prop := ∀ x ∈ o, x ≤ b
theorem bnd_getD {b : Nat} {o : List Nat} (h : Bnd b o) (i : Nat) : o.getD i 0 ≤ b := by
  rw [List.getD_eq_getElem?_getD]
  cases hx : o[i]? with
  | none => simp
  | some x => exact h x (List.mem_of_getElem? hx)
theorem addW_bnd {b : Nat} {o : List Nat} (h : Bnd b o) (n : Nat) : ∀ l : List Nat, Bnd (2 ^ l.length * b) (addW o n l) := fun l => by
  induction l generalizing o b with
  | nil => simpa [addW] using h
  | cons m l ih =>
    have h2 : Bnd (2 * b) (o.set n (o.getD n 0 + o.getD m 0)) := fun x hx => by
      rcases List.mem_or_eq_of_mem_set hx with hx | rfl
      · have := h x hx; omega
      · have := bnd_getD h n; have := bnd_getD h m; omega
    have := ih h2
    rw [List.length_cons, Nat.pow_succ, Nat.mul_assoc]
    exact this
theorem steps_len (r c n but : Nat) : (stepsM r c n but).length ≤ 2 := by
  have h1 : (step1 r c n but).length ≤ 1 := by unfold step1; split <;> simp
  unfold stepsM
  split
  · omega
  · rw [List.length_append]; simp; omega
theorem steps_lt {r c n but : Nat} : ∀ m ∈ stepsM r c n but, m < r * c := by
  have h1 : ∀ m ∈ step1 r c n but, m < r * c := fun m hm => by
    unfold step1 at hm
    split at hm
    · simp at hm
    · simp at hm; omega
  intro m hm
  unfold stepsM at hm
  split at hm
  · exact h1 m hm
  · rename_i h
    rw [List.mem_append] at hm
    rcases hm with hm | hm
    · exact h1 m hm
    · simp at hm; omega
theorem countM_length (r c shut to : Nat) : ∀ k, (countM r c shut to k).length = r * c
  | 0 => by simp [countM]
  | k + 1 => by
    have := countM_length r c shut to k
    rw [countM]; unfold stepW
    split
    · exact this
    · split
      · simpa using this
      · rw [addW_length]; exact this
theorem countM_bnd (r c shut to : Nat) : ∀ k, Bnd (4 ^ k) (countM r c shut to k)
  | 0 => fun x hx => by simp [countM] at hx; omega
  | k + 1 => by
    have ih := countM_bnd r c shut to k
    have h4 : 4 ^ (k + 1) = 4 * 4 ^ k := by rw [Nat.pow_succ, Nat.mul_comm]
    have hp := Nat.pow_pos (n := k) (show 0 < 4 by omega)
    rw [countM]; unfold stepW
    split
    · exact fun x hx => by have := ih x hx; omega
    · split
      · intro x hx
        rcases List.mem_or_eq_of_mem_set hx with hx | rfl
        · have := ih x hx; omega
        · omega
      · intro x hx
        have h1 := addW_bnd ih (to - k) (stepsM r c (to - k) shut) x hx
        have h2 := steps_len r c (to - k) shut
        have h3 : 2 ^ (stepsM r c (to - k) shut).length ≤ 2 ^ 2 := Nat.pow_le_pow_right (by decide) h2
        have h5 := Nat.mul_le_mul_right (4 ^ k) h3
        omega
end R4
