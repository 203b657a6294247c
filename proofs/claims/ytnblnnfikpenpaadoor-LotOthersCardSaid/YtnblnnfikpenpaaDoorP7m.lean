/-
  Plain chapter 07: lists of places as lists of numbers, in the library's order; what is drawn. Conditions: none.
-/
import Derived.Test.YtnblnnfikpenpaaDoorP7k
import Derived.Test.YtnblnnfikpenpaaDoorP7i
set_option linter.unusedVariables false
set_option linter.unusedSimpArgs false
set_option linter.deprecated false
namespace R7
open Go.V

def ofI (l : List Nat) : List Int := l.map Int.ofNat
theorem cmpI_nat (x y : Nat) : (cmpI (x : Int) y < 0 ↔ x < y) ∧ (cmpI (x : Int) y = 0 ↔ x = y) := by
  unfold cmpI
  constructor
  · by_cases h1 : (x : Int) < y
    · rw [if_pos h1]; omega
    · rw [if_neg h1]; split <;> omega
  · by_cases h1 : (x : Int) < y
    · rw [if_pos h1]; omega
    · rw [if_neg h1]; split <;> omega
theorem cmpL_lex : ∀ {a b : List Nat}, cmpL (ofI a) (ofI b) < 0 ↔ lexB a b = true
  | [], [] => by simp [ofI, cmpL, lexB]
  | [], y :: b => by simp [ofI, cmpL, lexB]
  | x :: a, [] => by simp [ofI, cmpL, lexB]
  | x :: a, y :: b => by
    have ih := @cmpL_lex a b
    obtain ⟨h1, h2⟩ := cmpI_nat x y
    show cmpL ((x : Int) :: ofI a) ((y : Int) :: ofI b) < 0 ↔ _
    rw [cmpL_cons]
    simp only [lexB, Bool.or_eq_true, decide_eq_true_eq, Bool.and_eq_true, beq_iff_eq]
    by_cases e : x = y
    · subst e
      rw [if_neg (by rw [h2.2 rfl]; simp), ih]
      simp
    · rw [if_pos (fun h => e (h2.1 h)), h1]
      simp [e]
/-- the whole lists among the first sets -/
def wholeC (n : Nat) (L : List Int) (k c : Nat) : List (List Nat) := ((List.range c).filter fun m => (ones m).length == k && wt L (ones m) % n == 0).map ones
theorem wholeC_succ (n : Nat) (L : List Int) (k c : Nat) : wholeC n L k (c + 1) = wholeC n L k c ++ if ((ones c).length == k && wt L (ones c) % n == 0) = true then [ones c] else [] := by
  unfold wholeC
  rw [List.range_succ, List.filter_append, List.filter_cons, List.filter_nil, List.map_append]
  split <;> rfl
theorem wholeC_length (n : Nat) (L : List Int) (k c : Nat) : (wholeC n L k c).length ≤ c := by
  unfold wholeC; rw [List.length_map]; exact Nat.le_trans (List.length_filter_le _ _) (by simp)
theorem wholeC_mem {n : Nat} {L : List Int} {k : Nat} (hL : L.length ≤ 12) {l : List Nat} : l ∈ wholeC n L k (2 ^ L.length) ↔ l ∈ whole n L k := by
  unfold wholeC
  rw [List.mem_map]
  constructor
  · rintro ⟨m, hm, rfl⟩
    rw [List.mem_filter, List.mem_range, Bool.and_eq_true, beq_iff_eq, beq_iff_eq] at hm
    exact mem_whole hL hm.1 hm.2.1 hm.2.2
  · intro h
    obtain ⟨m, hm, e, h0⟩ := whole_mask hL h
    refine ⟨m, List.mem_filter.2 ⟨List.mem_range.2 hm, ?_⟩, e⟩
    rw [Bool.and_eq_true, beq_iff_eq, beq_iff_eq, e]
    exact ⟨(whole_mem12 hL h).2.2, by unfold leftU at h0; rw [e] at h0; exact h0⟩
theorem wholeC_nodup {n : Nat} {L : List Int} {k : Nat} (hL : L.length ≤ 12) : (wholeC n L k (2 ^ L.length)).Nodup := by
  unfold wholeC
  rw [List.Nodup, List.pairwise_map]
  have h : ((List.range (2 ^ L.length)).filter fun m => (ones m).length == k && wt L (ones m) % n == 0).Pairwise (· ≠ ·) := List.Pairwise.filter _ List.nodup_range
  refine h.imp_of_mem fun {a b} ha hb hne e => ?_
  have h1 := List.mem_range.1 (List.mem_filter.1 ha).1
  have h2 := List.mem_range.1 (List.mem_filter.1 hb).1
  have := pow12 hL
  exact hne (ones_inj (by omega) (by omega) e)
theorem sorted_whole {n : Nat} {L : List Int} {k : Nat} (hL : L.length ≤ 12) {l' : List (List Int)} (hp : l'.Perm ((wholeC n L k (2 ^ L.length)).map ofI)) (hs : l'.Pairwise (fun x y => ¬ cmpL y x < 0)) : l' = (whole n L k).map ofI := by
  obtain ⟨w, rfl⟩ : ∃ w : List (List Nat), l' = w.map ofI := by
    have : ∀ x ∈ l', ∃ y, ofI y = x := fun x hx => by
      obtain ⟨y, _, e⟩ := List.mem_map.1 (hp.mem_iff.1 hx); exact ⟨y, e⟩
    clear hp hs
    induction l' with
    | nil => exact ⟨[], rfl⟩
    | cons x r ih =>
      obtain ⟨y, rfl⟩ := this x (by simp)
      obtain ⟨w, rfl⟩ := ih fun x hx => this x (by simp [hx])
      exact ⟨y :: w, rfl⟩
  have hinj : ∀ a b : List Nat, ofI a = ofI b → a = b := fun a b h => by
    have := congrArg (List.map Int.toNat) h
    simpa [ofI, List.map_map, Function.comp_def] using this
  have hmem : ∀ x, x ∈ w ↔ x ∈ whole n L k := fun x => by
    rw [← wholeC_mem hL]
    constructor
    · intro h
      obtain ⟨y, hy, e⟩ := List.mem_map.1 (hp.mem_iff.1 (List.mem_map.2 ⟨x, h, rfl⟩))
      exact hinj _ _ e ▸ hy
    · intro h
      obtain ⟨y, hy, e⟩ := List.mem_map.1 (hp.mem_iff.2 (List.mem_map.2 ⟨x, h, rfl⟩))
      exact hinj _ _ e ▸ hy
  have hn : w.Nodup := by
    have h1 : (w.map ofI).Nodup := hp.nodup_iff.2 (by
      rw [List.Nodup, List.pairwise_map]
      exact (wholeC_nodup (n := n) (k := k) hL).imp fun h e => h (hinj _ _ e))
    rw [List.Nodup, List.pairwise_map] at h1
    exact h1.imp fun h e => h (by rw [e])
  rw [List.pairwise_map] at hs
  have ha : Asc w := by
    refine (hn.and hs).imp fun {a b} h => ?_
    have h2 := h.2
    rw [cmpL_lex] at h2
    rcases lexB_total h.1 with h4 | h4
    · exact h4
    · exact absurd h4 h2
  rw [asc_unique ha (whole_asc n L k) hmem]

/-! ### what is drawn -/
def madeL (W : List Nat) (m : Nat) : List Int := (W.take m).map fun w => ((w % 1001 : Nat) : Int)
theorem madeL_length {W : List Nat} {m : Nat} (h : m ≤ W.length) : (madeL W m).length = m := by unfold madeL; rw [List.length_map, List.length_take]; omega
theorem madeL_bound {W : List Nat} {m : Nat} : ∀ x ∈ madeL W m, 0 ≤ x ∧ x ≤ 1000 := fun x hx => by
  obtain ⟨w, _, rfl⟩ := List.mem_map.1 hx; omega
end R7
