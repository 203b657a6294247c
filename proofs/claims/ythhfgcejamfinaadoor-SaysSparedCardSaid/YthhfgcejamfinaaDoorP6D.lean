/-
  Plain models of the law's own functions (statements without the reference). Conditions: none.
-/
import Derived.Test.YthhfgcejamfinaaDoorP6v
set_option linter.unusedVariables false
set_option linter.unusedSimpArgs false
set_option linter.deprecated false
namespace Go.V.R6

/-- a book of numbers -/
def bk (L : Rs) : Bk := L.map fun r => (lst r.1, lst r.2)
theorem bk_length (L : Rs) : (bk L).length = L.length := by simp [bk]
def madeL (full : Nat) (A : List Nat) (m : Nat) : Rs := (List.range m).map fun i => (A.getD i 0 &&& full, A.getD (8 + i) 0 &&& full)
theorem madeL_zero (full : Nat) (A : List Nat) : madeL full A 0 = [] := rfl
theorem madeL_length (full : Nat) (A : List Nat) (m : Nat) : (madeL full A m).length = m := by simp [madeL]
theorem madeL_succ (full : Nat) (A : List Nat) (m : Nat) : madeL full A (m + 1) = madeL full A m ++ [(A.getD m 0 &&& full, A.getD (8 + m) 0 &&& full)] := by simp [madeL, List.range_succ]
theorem bk_append (L M : Rs) : bk (L ++ M) = bk L ++ bk M := by simp [bk]
theorem madeL_ok {n : Nat} {A : List Nat} {m : Nat} : Ok (madeL (2 ^ n - 1) A m) n := by
  intro r hr
  obtain ⟨i, _, rfl⟩ := List.mem_map.1 hr
  have hp := Nat.two_pow_pos n
  exact ⟨Nat.lt_of_le_of_lt Nat.and_le_right (by omega), Nat.lt_of_le_of_lt Nat.and_le_right (by omega)⟩
def readL (n : Int) (l : List Int) : Nat × Bool := if listed l n = 0 then (maskOf l, true) else (0, false)
theorem readL_ok {n : Int} {l : List Int} (h : listed l n = 0) : readL n l = (maskOf l, true) := by simp [readL, h]
theorem readL_err {n : Int} {l : List Int} (h : listed l n ≠ 0) : readL n l = (0, false) := by simp [readL, h]

def cloU (L : Rs) (n f k : Nat) : Nat := (List.range k).foldl (fun out c => if sub f c && closedM L c then out &&& c else out) (2 ^ n - 1)
theorem cloU_zero (L : Rs) (n f : Nat) : cloU L n f 0 = 2 ^ n - 1 := rfl
theorem cloU_succ (L : Rs) (n f k : Nat) : cloU L n f (k + 1) = if (sub f k && closedM L k) = true then cloU L n f k &&& k else cloU L n f k := by
  simp [cloU, List.range_succ]
theorem cloU_all (L : Rs) (n f : Nat) : cloU L n f (2 ^ n) = clo L n f := rfl
theorem cloU_le (L : Rs) (n f : Nat) : ∀ k, cloU L n f k ≤ 2 ^ n - 1
  | 0 => Nat.le_refl _
  | k + 1 => by
    rw [cloU_succ]
    split
    · exact Nat.le_trans Nat.and_le_left (cloU_le L n f k)
    · exact cloU_le L n f k

def opAt (L : Rs) (n s : Nat) (o : Nat) : Bool := !(sub o s && !sub (clo L n o) s)
def isOp (L : Rs) (n : Nat) (out : List Nat) (s : Nat) : Bool := !closedM L s && out.all (opAt L n s)
def openU (L : Rs) (n : Nat) : Nat → List Nat
  | 0 => []
  | k + 1 => openU L n k ++ if isOp L n (openU L n k) k = true then [k] else []
def openL (L : Rs) (n : Nat) : List Nat := openU L n (2 ^ n)
theorem openU_length (L : Rs) (n : Nat) : ∀ k, (openU L n k).length ≤ k
  | 0 => Nat.le_refl _
  | k + 1 => by
    have := openU_length L n k
    unfold openU; rw [List.length_append]; split <;> simp <;> omega
theorem openU_lt (L : Rs) (n : Nat) : ∀ k, ∀ o ∈ openU L n k, o < k
  | 0, o, h => by simp [openU] at h
  | k + 1, o, h => by
    unfold openU at h
    rcases List.mem_append.1 h with h | h
    · have := openU_lt L n k o h; omega
    · split at h <;> simp at h; omega
theorem dif_zero (a b : Nat) : (((dif a b : Nat) : Int) == 0) = sub a b := by
  rw [← dif_eq_zero]
  cases h : dif a b with
  | zero => rfl
  | succ n => simp; omega
theorem dif_nzero (a b : Nat) : (((dif a b : Nat) : Int) != 0) = !sub a b := by
  rw [← dif_zero]; rfl
theorem pow64 {n : Nat} (h : n ≤ 6) : 2 ^ n ≤ 64 := Nat.pow_le_pow_right (n := 2) (by omega) h
theorem closedM_take {L : Rs} {k : Nat} {x : Nat × Nat} {s : Nat} (hI : closedM (L.take k) s = true) (hx : L[k]? = some x) (h : sub x.1 s = false ∨ sub x.2 s = true) : closedM (L.take (k + 1)) s = true := by
  rw [List.take_add_one, hx]; unfold closedM at *; rw [List.all_append, hI]
  rcases h with h | h <;> simp [h]
theorem closedM_false {L : Rs} {k : Nat} {x : Nat × Nat} {s : Nat} (hx : L[k]? = some x) (h1 : sub x.1 s = true) (h2 : sub x.2 s = false) : closedM L s = false := by
  cases h : closedM L s with
  | false => rfl
  | true => have := closedM_iff.1 h x (List.mem_of_getElem? hx) h1; rw [h2] at this; cases this
end Go.V.R6
