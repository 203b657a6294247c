/-
  Plain models of the chapter's reference: open sets, the base. Conditions: none.
-/
import Derived.Test.YthhfgcejamfinaaGreatP6n
set_option linter.unusedVariables false
set_option linter.unusedSimpArgs false
set_option linter.deprecated false
namespace Go.V.R6
abbrev Op := List Int × List Int
def openAt (s : List Int) (o : Op) : Bool := !(part o.1 s) || part o.2 s
def isR (l : Bk) (size : Nat) (s : List Int) : Bool := (s.length == size) && !(closedR l s)
def opStepR (n : Int) (l : Bk) (size : Nat) (os : List Op) (s : List Int) : List Op := if (isR l size s && os.all (openAt s)) = true then os ++ [(s, followsR n l s)] else os
def opRowR (n : Int) (l : Bk) (size : Nat) (os : List Op) (k : Nat) : List Op := ((setsA n).take k).foldl (opStepR n l size) os
def opUptoR (n : Int) (l : Bk) : Nat → List Op
  | 0 => []
  | s + 1 => opRowR n l s (opUptoR n l s) (setsA n).length
def opensR (n : Int) (l : Bk) : List Op := opUptoR n l (n.toNat + 1)
theorem opUptoR_succ (n : Int) (l : Bk) (s : Nat) : opUptoR n l (s + 1) = opRowR n l s (opUptoR n l s) (setsA n).length := rfl
theorem opRowR_zero (n : Int) (l : Bk) (size : Nat) (os : List Op) : opRowR n l size os 0 = os := rfl
theorem opRowR_succ (n : Int) (l : Bk) (size : Nat) (os : List Op) {k : Nat} {x : List Int} (h : (setsA n)[k]? = some x) : opRowR n l size os (k + 1) = opStepR n l size (opRowR n l size os k) x := by
  unfold opRowR; rw [take_succ_of h, List.foldl_append]; rfl
theorem opStepR_no {n : Int} {l : Bk} {s : Nat} {qs : List Op} {x : List Int} {j : Nat} (h : (isR l s x && (qs.take j).all (openAt x)) = false) : opStepR n l s qs x = qs := by
  unfold opStepR
  rw [if_neg]
  intro h2
  rw [Bool.and_eq_true] at h2
  rw [h2.1, Bool.true_and] at h
  have : (qs.take j).all (openAt x) = true := List.all_eq_true.2 fun o ho => List.all_eq_true.1 h2.2 o (List.mem_of_mem_take ho)
  rw [this] at h; cases h
structure OpsOK (os : List Op) (k : Nat) : Prop where
  len : os.length ≤ k
  row : ∀ o ∈ os, o.1.length ≤ 6 ∧ o.2.length ≤ 6
theorem OpsOK.step {n : Int} (hn : n ≤ 6) {l : Bk} {size : Nat} {os : List Op} {k : Nat} (h : OpsOK os k) {x : List Int} (hx : x.length ≤ 6) : OpsOK (opStepR n l size os x) (k + 1) := by
  unfold opStepR
  split
  · refine ⟨by have := h.len; simp; omega, fun o ho => ?_⟩
    rcases List.mem_append.1 ho with ho | ho
    · exact h.row o ho
    · simp at ho; subst ho; exact ⟨hx, followsR_length hn l x⟩
  · exact ⟨by have := h.len; omega, h.row⟩
theorem OpsOK.rowN {n : Int} (hn : n ≤ 6) {l : Bk} {size : Nat} {os : List Op} {m : Nat} (h : OpsOK os m) : ∀ k, k ≤ (setsA n).length → OpsOK (opRowR n l size os k) (m + k)
  | 0, _ => h
  | k + 1, hk => by
    have hx : (setsA n)[k]? = some (setsA n)[k] := List.getElem?_eq_getElem (by omega)
    rw [opRowR_succ n l size os hx]
    exact (OpsOK.rowN hn h k (by omega)).step hn (setsA_row hn _ (List.getElem_mem _))
theorem OpsOK.upto {n : Int} (hn : n ≤ 6) (l : Bk) : ∀ s, OpsOK (opUptoR n l s) (s * 117649)
  | 0 => ⟨by simp [opUptoR], by simp [opUptoR]⟩
  | s + 1 => by
    have h := (OpsOK.upto hn l s).rowN (l := l) (size := s) hn (setsA n).length (Nat.le_refl _)
    have hl : (setsA n).length ≤ 117649 := setsR_length hn 6 [] (by simp [fromR])
    exact ⟨by have := h.len; unfold opUptoR; omega, h.row⟩
def atR (L : List (List Int)) (set : List Int) : Int :=
  match (List.range L.length).find? (fun i => ((L.getD i []).length == set.length) && part (L.getD i []) set) with
  | some i => i
  | none => -1
def atP (L : List (List Int)) (set : List Int) (i : Nat) : Bool := ((L.getD i []).length == set.length) && part (L.getD i []) set
theorem atR_none {L : List (List Int)} {set : List Int} (h : ∀ i, i < L.length → atP L set i = false) : atR L set = -1 := by
  have : (List.range L.length).find? (atP L set) = none := by
    rw [List.find?_eq_none]; intro i hi; rw [h i (List.mem_range.1 hi)]; decide
  unfold atP at this
  unfold atR; rw [this]
theorem find_hit {p : Nat → Bool} {n k : Nat} (h : ∀ j, j < k → p j = false) (hk : k < n) (hp : p k = true) : (List.range n).find? p = some k := by
  obtain ⟨m, rfl⟩ : ∃ m, n = k + 1 + m := ⟨n - (k + 1), by omega⟩
  rw [List.range_add, List.find?_append, List.range_succ, List.find?_append, List.find?_eq_none.2 (fun x hx => by rw [h x (List.mem_range.1 hx)]; decide)]
  simp [hp]
theorem atR_hit {L : List (List Int)} {set : List Int} {k : Nat} (h : ∀ i, i < k → atP L set i = false) (hk : k < L.length) (hp : atP L set k = true) : atR L set = k := by
  have : (List.range L.length).find? (atP L set) = some k := find_hit h hk hp
  unfold atP at this
  unfold atR; rw [this]
theorem atR_range (L : List (List Int)) (set : List Int) : atR L set = -1 ∨ ∃ k : Nat, k < L.length ∧ atR L set = k ∧ atP L set k = true := by
  cases h : (List.range L.length).find? (atP L set) with
  | none =>
    refine .inl (atR_none fun i hi => ?_)
    have := List.find?_eq_none.1 h i (List.mem_range.2 hi)
    simpa using this
  | some k =>
    have h1 := List.mem_range.1 (List.mem_of_find?_eq_some h)
    have h2 := List.find?_some h
    refine .inr ⟨k, h1, ?_, h2⟩
    unfold atP at h
    unfold atR; rw [h]
/-- a sentence of the base -/
def baseItem (o f : List (List Int)) (s : List Int) : Option (List Int × List Int) :=
  if atR o s < 0 then none else some (s, (f.getD (atR o s).toNat []).filter fun x => !(s.contains x))
def baseR (n : Int) (l : Bk) : Bk := (setsA n).filterMap (baseItem ((opensR n l).map (·.1)) ((opensR n l).map (·.2)))
theorem baseR_length {n : Int} (hn : n ≤ 6) (l : Bk) : (baseR n l).length ≤ 117649 := by
  unfold baseR
  refine Nat.le_trans (List.length_filterMap_le _ _) ?_
  exact setsR_length hn 6 [] (by simp [fromR])
end Go.V.R6
