/-
  Plain models of the law's own functions (statements without the reference). Conditions: none.
-/
import Derived.Test.YtlkanfakfmklbaaDoorP6v
set_option linter.unusedVariables false
set_option linter.unusedSimpArgs false
set_option linter.deprecated false
namespace Go.V.R6

/-- a book of numbers -/
def bk (L : Rs) : Bk := L.map fun r => (lst r.1, lst r.2)
theorem bk_length (L : Rs) : (bk L).length = L.length := by simp [bk]
def madeL (full : Nat) (A : List Nat) (m : Nat) : Rs := (List.range m).map fun i => (A.getD i 0 &&& full, A.getD (8 + i) 0 &&& full)
theorem madeL_zero (full : Nat) (A : List Nat) : madeL full A 0 = [] := rfl
theorem madeL_length (full : Nat) (A : List Nat) (m : Nat) : (madeL full A m).length = m := by simp [madeL]
theorem madeL_succ (full : Nat) (A : List Nat) (m : Nat) : madeL full A (m + 1) = madeL full A m ++ [(A.getD m 0 &&& full, A.getD (8 + m) 0 &&& full)] := by simp [madeL, List.range_succ]
theorem bk_append (L M : Rs) : bk (L ++ M) = bk L ++ bk M := by simp [bk]
theorem madeL_ok {n : Nat} {A : List Nat} {m : Nat} : Ok (madeL (2 ^ n - 1) A m) n := by
  intro r hr
  obtain ⟨i, _, rfl⟩ := List.mem_map.1 hr
  have hp := Nat.two_pow_pos n
  exact ⟨Nat.lt_of_le_of_lt Nat.and_le_right (by omega), Nat.lt_of_le_of_lt Nat.and_le_right (by omega)⟩
def readL (n : Int) (l : List Int) : Nat × Bool := if listed l n = 0 then (maskOf l, true) else (0, false)
theorem readL_ok {n : Int} {l : List Int} (h : listed l n = 0) : readL n l = (maskOf l, true) := by simp [readL, h]
def opAt (L : Rs) (n s : Nat) (o : Nat) : Bool := !(sub o s && !sub (clo L n o) s)
def isOp (L : Rs) (n : Nat) (out : List Nat) (s : Nat) : Bool := !closedM L s && out.all (opAt L n s)
def openU (L : Rs) (n : Nat) : Nat → List Nat
  | 0 => []
  | k + 1 => openU L n k ++ if isOp L n (openU L n k) k = true then [k] else []
def openL (L : Rs) (n : Nat) : List Nat := openU L n (2 ^ n)
theorem openU_lt (L : Rs) (n : Nat) : ∀ k, ∀ o ∈ openU L n k, o < k
  | 0, o, h => by simp [openU] at h
  | k + 1, o, h => by
    unfold openU at h
    rcases List.mem_append.1 h with h | h
    · have := openU_lt L n k o h; omega
    · split at h <;> simp at h; omega
theorem pow64 {n : Nat} (h : n ≤ 6) : 2 ^ n ≤ 64 := Nat.pow_le_pow_right (n := 2) (by omega) h
end Go.V.R6
