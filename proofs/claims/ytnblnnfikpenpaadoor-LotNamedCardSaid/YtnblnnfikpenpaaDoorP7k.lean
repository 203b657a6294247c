/-
  Plain chapter 07: what so many loads leave, sorted and once each. Conditions: none.
  Plain chapter 07: lists of places, one place at a time. Conditions: none.
-/
import Derived.Test.YtnblnnfikpenpaaDoorP7j
import Derived.Test.YtnblnnfikpenpaaDoorVIns
set_option linter.unusedVariables false
set_option linter.unusedSimpArgs false
set_option linter.deprecated false
namespace R7
open Go.Lib Go.Sort

/-! ### Compact of a list that rises -/
theorem compactUpTo_spec {l : List Int} (hs : l.Pairwise (· ≤ ·)) : ∀ m, m ≤ l.length → (compactUpTo l.toArray m).Pairwise (· < ·) ∧ (∀ x, x ∈ compactUpTo l.toArray m ↔ x ∈ l.take m)
  | 0, _ => by simp [compactUpTo]
  | m + 1, h => by
    obtain ⟨i1, i2⟩ := compactUpTo_spec hs m (by omega)
    have hm : m < l.length := by omega
    have e1 : l.toArray[m]! = l[m] := by simp [hm]
    have e2 : l.take (m + 1) = l.take m ++ [l[m]] := by rw [List.take_add_one]; simp [hm]
    have hle : ∀ x ∈ l.take m, x ≤ l[m] := fun x hx => by
      obtain ⟨i, hi, rfl⟩ := List.getElem_of_mem hx
      rw [List.length_take] at hi
      rw [List.getElem_take]
      exact List.pairwise_iff_getElem.1 hs i m (by omega) hm (by omega)
    rw [compactUpTo_succ, e1]
    by_cases hk : keeps l.toArray m = true
    · rw [if_pos hk]
      unfold keeps at hk
      rw [decide_eq_true_eq] at hk
      refine ⟨?_, fun x => by rw [List.mem_append, i2, e2, List.mem_append]⟩
      rw [List.pairwise_append]
      refine ⟨i1, List.pairwise_singleton _ _, fun x hx y hy => ?_⟩
      rw [List.mem_singleton] at hy
      subst hy
      have hx2 := (i2 x).1 hx
      rcases hk with hk | hk
      · subst hk; simp at hx2
      · by_cases h0 : m = 0
        · subst h0; simp at hx2
        · have e3 : l.toArray[m - 1]! = l[m - 1] := by simp [show m - 1 < l.length by omega]
          rw [e1, e3] at hk
          have h4 := List.pairwise_iff_getElem.1 hs (m - 1) m (by omega) hm (by omega)
          obtain ⟨i, hi, rfl⟩ := List.getElem_of_mem hx2
          rw [List.length_take] at hi
          rw [List.getElem_take]
          have h5 : l[i] ≤ l[m - 1] := by
            by_cases e : i = m - 1
            · subst e; exact Int.le_refl _
            · exact List.pairwise_iff_getElem.1 hs i (m - 1) (by omega) (by omega) (by omega)
          omega
    · rw [if_neg hk, List.append_nil]
      unfold keeps at hk
      rw [decide_eq_true_eq] at hk
      have h0 : m ≠ 0 := fun e => hk (.inl e)
      have e3 : l.toArray[m - 1]! = l[m - 1] := by simp [show m - 1 < l.length by omega]
      have h6 : l[m] = l[m - 1] := by
        rw [e1, e3] at hk
        exact Decidable.byContradiction fun h => hk (.inr h)
      refine ⟨i1, fun x => ?_⟩
      rw [i2, e2, List.mem_append, List.mem_singleton]
      refine ⟨.inl, fun h => h.elim id fun h => ?_⟩
      subst h
      rw [h6, List.mem_take_iff_getElem]
      exact ⟨m - 1, by omega, rfl⟩
theorem asc_ints : ∀ {a b : List Int}, a.Pairwise (· < ·) → b.Pairwise (· < ·) → (∀ x, x ∈ a ↔ x ∈ b) → a = b
  | [], [], _, _, _ => rfl
  | [], y :: b, _, _, h => by have := (h y).2 (by simp); simp at this
  | x :: a, [], _, _, h => by have := (h x).1 (by simp); simp at this
  | x :: a, y :: b, ha, hb, h => by
    rw [List.pairwise_cons] at ha hb
    have e : x = y := by
      have h1 := (h x).1 (by simp)
      have h2 := (h y).2 (by simp)
      rcases List.mem_cons.1 h1 with e | h1
      · exact e
      · rcases List.mem_cons.1 h2 with e | h2
        · exact e.symm
        · have := ha.1 y h2; have := hb.1 x h1; omega
    subst e
    rw [asc_ints ha.2 hb.2 fun z => ?_]
    constructor
    · intro hz
      rcases List.mem_cons.1 ((h z).1 (by simp [hz])) with e | h3
      · subst e; have := ha.1 z hz; omega
      · exact h3
    · intro hz
      rcases List.mem_cons.1 ((h z).2 (by simp [hz])) with e | h3
      · subst e; have := hb.1 z hz; omega
      · exact h3
theorem compact_eq {l r : List Int} (hr : r.Pairwise (· < ·)) (hm : ∀ x, x ∈ l ↔ x ∈ r) : compact (l.mergeSort fun x y => decide (x ≤ y)) = r := by
  have hs : (l.mergeSort fun x y => decide (x ≤ y)).Pairwise (· ≤ ·) := by
    have := List.pairwise_mergeSort (le := fun x y : Int => decide (x ≤ y)) (fun a b c h1 h2 => by simp at h1 h2 ⊢; omega) (fun a b => by simp; omega) l
    exact this.imp fun h => by simpa using h
  obtain ⟨h1, h2⟩ := compactUpTo_spec hs _ (Nat.le_refl _)
  refine asc_ints h1 hr fun x => ?_
  rw [compact, h2, List.take_length, List.mem_mergeSort, hm]

/-! ### what so many loads leave -/
def leavesU (n : Nat) (L : List Int) (q c : Nat) : List Int := ((List.range c).filter fun m => (ones m).length == q).map (leftU n L)
theorem leavesU_succ (n : Nat) (L : List Int) (q c : Nat) : leavesU n L q (c + 1) = leavesU n L q c ++ if ((ones c).length == q) = true then [leftU n L c] else [] := by
  unfold leavesU
  rw [List.range_succ, List.filter_append, List.filter_cons, List.filter_nil, List.map_append]
  split <;> rfl
theorem leavesU_length (n : Nat) (L : List Int) (q c : Nat) : (leavesU n L q c).length ≤ c := by
  unfold leavesU; rw [List.length_map]; exact Nat.le_trans (List.length_filter_le _ _) (by simp)
def leavesL (n : Nat) (L : List Int) (q : Nat) : List Nat := (List.range n).filter fun r => (combs L.length 0 q).any fun l => wt L l % n == r
theorem leavesU_ne {n : Nat} {L : List Int} {q : Nat} (hL : L.length ≤ 12) (hq : q ≤ L.length) : leavesU n L q (2 ^ L.length) ≠ [] := by
  intro h
  have hm : (List.range q) ∈ combs L.length 0 q := by
    rw [mem_combs]
    exact ⟨by simp, List.pairwise_lt_range, fun x hx => by simp at hx; omega⟩
  obtain ⟨m, hm1, hm2⟩ := combs_mask hL hm
  have : leftU n L m ∈ leavesU n L q (2 ^ L.length) := by
    unfold leavesU
    refine List.mem_map.2 ⟨m, List.mem_filter.2 ⟨List.mem_range.2 hm1, ?_⟩, rfl⟩
    rw [hm2]; simp
  rw [h] at this; simp at this
theorem mem_leavesU {n : Nat} {L : List Int} {q : Nat} (hL : L.length ≤ 12) (x : Int) : x ∈ leavesU n L q (2 ^ L.length) ↔ ∃ l ∈ combs L.length 0 q, wt L l % n = x := by
  unfold leavesU
  rw [List.mem_map]
  constructor
  · rintro ⟨m, hm, rfl⟩
    rw [List.mem_filter, List.mem_range, beq_iff_eq] at hm
    exact ⟨ones m, (mem_combs_ones hL hm.1).2 hm.2, rfl⟩
  · rintro ⟨l, hl, rfl⟩
    obtain ⟨m, hm1, hm2⟩ := combs_mask hL hl
    refine ⟨m, List.mem_filter.2 ⟨List.mem_range.2 hm1, ?_⟩, by unfold leftU; rw [hm2]⟩
    rw [hm2, beq_iff_eq]; exact ((mem_combs _ _ _ _).1 hl).1
theorem rise_map {l : List Nat} (h : l.Pairwise (· < ·)) : (l.map Int.ofNat).Pairwise (· < ·) := by
  rw [List.pairwise_map]; exact h.imp fun h => by simpa using h
theorem compact_leaves {n : Nat} {L : List Int} {q : Nat} (hn : 0 < n) (hL : L.length ≤ 12) : compact ((leavesU n L q (2 ^ L.length)).mergeSort fun x y => decide (x ≤ y)) = (leavesL n L q).map Int.ofNat := by
  refine compact_eq (rise_map (List.Pairwise.filter _ List.pairwise_lt_range)) fun x => ?_
  rw [mem_leavesU hL, List.mem_map]
  constructor
  · rintro ⟨l, hl, rfl⟩
    have h1 := Int.emod_nonneg (wt L l) (show (n : Int) ≠ 0 by omega)
    have h2 := Int.emod_lt_of_pos (wt L l) (show (0 : Int) < n by omega)
    refine ⟨(wt L l % n).toNat, List.mem_filter.2 ⟨List.mem_range.2 (by omega), List.any_eq_true.2 ⟨l, hl, ?_⟩⟩, by simp; omega⟩
    rw [beq_iff_eq]; omega
  · rintro ⟨r, hr, rfl⟩
    obtain ⟨l, hl, h⟩ := List.any_eq_true.1 (List.mem_filter.1 hr).2
    exact ⟨l, hl, by simpa using h⟩
end R7

namespace R7

end R7
