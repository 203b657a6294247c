/-
  Chapter 05 in plain words: the best trees among the first so many, one after the other. Conditions: none.
-/
import Derived.Test.YtggiakaeaalioaaP5a
set_option linter.unusedVariables false
set_option linter.unusedSimpArgs false
set_option linter.deprecated false
namespace R5

def seenU (n i : Nat) : List T := (all n).take i
def bestsU (L : List Int) (i : Nat) : List T := argL (fun t => t.cost L 0) (seenU L.length i)
def leastU (L : List Int) (i : Nat) : Int := if i = 0 then -1 else minL ((seenU L.length i).map fun t => t.cost L 0)
theorem bestsU_zero (L : List Int) : bestsU L 0 = [] := by simp [bestsU, seenU, argL]
theorem leastU_zero (L : List Int) : leastU L 0 = -1 := rfl
theorem all_get {n i : Nat} (h : i < cnt n) : (all n)[i]? = some (nth n i) := by
  unfold nth
  rw [List.getElem?_eq_getElem (show i < (all n).length from h)]; rfl
theorem seenU_succ {n i : Nat} (h : i < cnt n) : seenU n (i + 1) = seenU n i ++ [nth n i] := by
  unfold seenU
  rw [List.take_add_one, all_get h]; rfl
theorem seenU_nil {n i : Nat} (hi : i ≤ cnt n) : seenU n i = [] ↔ i = 0 := by
  constructor
  · intro h
    have := congrArg List.length h
    unfold seenU cnt at *
    rw [List.length_take, List.length_nil] at this
    omega
  · rintro rfl; simp [seenU]
theorem leastU_pos {L : List Int} (hL : Loads L) {i : Nat} (hi : i ≤ cnt L.length) (h0 : i ≠ 0) : 0 ≤ leastU L i := by
  unfold leastU
  rw [if_neg h0]
  have hne : (seenU L.length i).map (fun t => t.cost L 0) ≠ [] := by
    intro e
    exact h0 ((seenU_nil hi).1 (List.map_eq_nil_iff.1 e))
  obtain ⟨t, _, e⟩ := List.mem_map.1 (minL_mem hne)
  rw [← e]
  exact (cost_bd hL t 0).1
/-- a tree is better than all before it -/
theorem step_new {L : List Int} (hL : Loads L) {i : Nat} (hi : i < cnt L.length) (h : leastU L i < 0 ∨ (nth L.length i).cost L 0 < leastU L i) : bestsU L (i + 1) = [nth L.length i] ∧ leastU L (i + 1) = (nth L.length i).cost L 0 := by
  have hc : seenU L.length i = [] ∨ (nth L.length i).cost L 0 < minL ((seenU L.length i).map fun t => t.cost L 0) := by
    by_cases h0 : i = 0
    · exact .inl ((seenU_nil (by omega)).2 h0)
    · have := leastU_pos hL (i := i) (by omega) h0
      refine .inr ?_
      have h := h.resolve_left (by omega)
      unfold leastU at h; rw [if_neg h0] at h; exact h
  refine ⟨?_, ?_⟩
  · unfold bestsU; rw [seenU_succ hi, argL_snoc, if_pos hc]
  · unfold leastU; rw [if_neg (by omega), seenU_succ hi, List.map_append]
    show minL (_ ++ [(nth L.length i).cost L 0]) = _
    rw [minL_snoc, if_pos]
    rcases hc with h | h
    · exact .inl (by rw [h]; rfl)
    · exact .inr h
theorem step_old {L : List Int} {i : Nat} (hi : i < cnt L.length) (h : ¬ (leastU L i < 0 ∨ (nth L.length i).cost L 0 < leastU L i)) :
    leastU L (i + 1) = leastU L i ∧ bestsU L (i + 1) = if (nth L.length i).cost L 0 = leastU L i then bestsU L i ++ [nth L.length i] else bestsU L i := by
  have h0 : i ≠ 0 := by rintro rfl; exact h (.inl (by rw [leastU_zero]; omega))
  have hl : leastU L i = minL ((seenU L.length i).map fun t => t.cost L 0) := by unfold leastU; rw [if_neg h0]
  have hc : ¬ (seenU L.length i = [] ∨ (nth L.length i).cost L 0 < minL ((seenU L.length i).map fun t => t.cost L 0)) := by
    rintro (h' | h')
    · exact h0 ((seenU_nil (by omega)).1 h')
    · exact h (.inr (hl ▸ h'))
  refine ⟨?_, ?_⟩
  · rw [hl]
    unfold leastU; rw [if_neg (by omega), seenU_succ hi, List.map_append]
    show minL (_ ++ [(nth L.length i).cost L 0]) = _
    rw [minL_snoc, if_neg]
    rintro (h' | h')
    · exact hc (.inl (List.map_eq_nil_iff.1 h'))
    · exact hc (.inr h')
  · unfold bestsU; rw [seenU_succ hi, argL_snoc, if_neg hc, hl]
theorem seenU_all (n : Nat) : seenU n (cnt n) = all n := by unfold seenU cnt; rw [List.take_length]
theorem bestsU_all {L : List Int} (h : 1 ≤ L.length) : bestsU L (cnt L.length) = bests L 0 L.length ∧ leastU L (cnt L.length) = least L 0 L.length := by
  have := cnt_pos h
  refine ⟨?_, ?_⟩
  · unfold bestsU; rw [seenU_all]; rfl
  · unfold leastU; rw [if_neg (by omega), seenU_all]; rfl
theorem bestsU_step_ne {L : List Int} (hL : Loads L) {i : Nat} (hi : i < cnt L.length) : bestsU L (i + 1) ≠ [] := by
  by_cases h : leastU L i < 0 ∨ (nth L.length i).cost L 0 < leastU L i
  · rw [(step_new hL hi h).1]; simp
  · have hne : seenU L.length (i + 1) ≠ [] := by rw [seenU_succ hi]; simp
    have := minL_mem (l := (seenU L.length (i + 1)).map fun t => t.cost L 0) (by simpa using hne)
    obtain ⟨t, ht, e⟩ := List.mem_map.1 this
    intro h'
    have : t ∈ bestsU L (i + 1) := List.mem_filter.2 ⟨ht, by simp [e]⟩
    rw [h'] at this; cases this
theorem bestsU_len (L : List Int) (i : Nat) : (bestsU L i).length ≤ i := by
  unfold bestsU argL seenU
  exact Nat.le_trans (List.length_filter_le _ _) (by rw [List.length_take]; omega)
end R5
