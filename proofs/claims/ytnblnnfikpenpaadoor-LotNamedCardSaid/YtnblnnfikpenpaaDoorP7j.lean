/-
  Plain chapter 07: the fewest loads, by sets and by lists. Conditions: none.
-/
import Derived.Test.YtnblnnfikpenpaaDoorP7i
set_option linter.unusedVariables false
set_option linter.unusedSimpArgs false
set_option linter.deprecated false
namespace R7

/-- the first list of fewest loads -/
def someU (n : Nat) (L : List Int) : Nat → Nat → Option (List Nat)
  | _, 0 => none
  | k, f + 1 => match whole n L k with
    | l :: _ => some l
    | [] => someU n L (k + 1) f
def someL (n : Nat) (L : List Int) : Option (List Nat) := someU n L 1 L.length
theorem someU_none {n : Nat} {L : List Int} : ∀ (f k : Nat), (∀ i, k ≤ i → i < k + f → whole n L i = []) → someU n L k f = none
  | 0, _, _ => rfl
  | f + 1, k, h => by
    rw [someU, h k (Nat.le_refl _) (by omega)]
    exact someU_none f (k + 1) fun i h1 h2 => h i (by omega) (by omega)
theorem someU_some {n : Nat} {L : List Int} {j : Nat} {l : List Nat} {r : List (List Nat)} (hj : whole n L j = l :: r) : ∀ (f k : Nat), k ≤ j → j < k + f → (∀ i, k ≤ i → i < j → whole n L i = []) → someU n L k f = some l
  | 0, k, h1, h2, _ => by omega
  | f + 1, k, h1, h2, h => by
    by_cases e : k = j
    · subst e; rw [someU, hj]
    · rw [someU, h k (Nat.le_refl _) (by omega)]
      exact someU_some hj f (k + 1) (by omega) (by omega) fun i h3 h4 => h i (by omega) h4

def better (m b : Nat) : Bool := b == 0 || (decide ((ones m).length < (ones b).length) || ((ones m).length == (ones b).length && bitB m b))
def bestU (n : Nat) (L : List Int) : Nat → Nat
  | 0 => 0
  | c + 1 => if (leftU n L c == 0 && c != 0 && better c (bestU n L c)) = true then c else bestU n L c
theorem bestU_succ (n : Nat) (L : List Int) (c : Nat) : bestU n L (c + 1) = if (leftU n L c == 0 && c != 0 && better c (bestU n L c)) = true then c else bestU n L c := rfl
/-- not behind another set -/
def Lead (b m : Nat) : Prop := (ones b).length < (ones m).length ∨ (ones b).length = (ones m).length ∧ lexB (ones m) (ones b) = false
theorem lead_refl (b : Nat) : Lead b b := .inr ⟨rfl, lexB_irrefl _⟩
theorem lead_trans {a b c : Nat} (h : Lead a b) (k : Lead b c) : Lead a c := by
  rcases h with h | ⟨h1, h2⟩ <;> rcases k with k | ⟨k1, k2⟩
  · exact .inl (by omega)
  · exact .inl (by omega)
  · exact .inl (by omega)
  · refine .inr ⟨by omega, ?_⟩
    cases h3 : lexB (ones c) (ones a) with
    | false => rfl
    | true =>
      by_cases e : ones a = ones b
      · rw [e] at h3; rw [h3] at k2; cases k2
      · rcases lexB_total e with h4 | h4
        · rw [lexB_trans h3 h4] at k2; cases k2
        · rw [h4] at h2; cases h2
theorem better_iff {m b : Nat} (hm : m < 4096) (hb : b < 4096) (h0 : b ≠ 0) : better m b = false ↔ Lead b m := by
  unfold better Lead
  have e0 : (b == 0) = false := by simp [h0]
  rw [e0, Bool.false_or]
  by_cases h1 : (ones m).length < (ones b).length
  · simp [h1]; omega
  · by_cases h2 : (ones m).length = (ones b).length
    · rw [bitB_eq hm hb h2]
      simp [h1, h2, before]
    · have e3 : ((ones m).length == (ones b).length) = false := by simp [h2]
      simp [h1, h2]; omega
theorem better_lead {m b : Nat} (hm : m < 4096) (hb : b < 4096) (h0 : b ≠ 0) (h : better m b = true) : Lead m b := by
  unfold better at h
  have e0 : (b == 0) = false := by simp [h0]
  rw [e0, Bool.false_or] at h
  by_cases h1 : (ones m).length < (ones b).length
  · exact .inl h1
  · by_cases h2 : (ones m).length = (ones b).length
    · rw [bitB_eq hm hb h2] at h
      simp [h1, h2, before] at h
      exact .inr ⟨h2, lexB_asymm h⟩
    · simp [h1, h2] at h
theorem bestU_inv {n : Nat} {L : List Int} : ∀ c, c ≤ 4096 → (bestU n L c = 0 → ∀ m, m < c → m ≠ 0 → leftU n L m ≠ 0) ∧ (bestU n L c ≠ 0 → bestU n L c < c ∧ leftU n L (bestU n L c) = 0 ∧ ∀ m, m < c → m ≠ 0 → leftU n L m = 0 → Lead (bestU n L c) m)
  | 0, _ => ⟨fun _ m h => by omega, fun h => absurd rfl h⟩
  | c + 1, hc => by
    obtain ⟨i1, i2⟩ := bestU_inv (n := n) (L := L) c (by omega)
    rw [bestU_succ]
    by_cases h : (leftU n L c == 0 && c != 0 && better c (bestU n L c)) = true
    · rw [if_pos h]
      rw [Bool.and_eq_true, Bool.and_eq_true, beq_iff_eq, bne_iff_ne] at h
      obtain ⟨⟨h1, h2⟩, h3⟩ := h
      refine ⟨fun e => absurd e h2, fun _ => ⟨by omega, h1, fun m hm h0 hl => ?_⟩⟩
      by_cases e : m = c
      · subst e; exact lead_refl _
      · by_cases hb : bestU n L c = 0
        · exact absurd hl (i1 hb m (by omega) h0)
        · obtain ⟨j1, j2, j3⟩ := i2 hb
          exact lead_trans (better_lead (by omega) (by omega) hb h3) (j3 m (by omega) h0 hl)
    · rw [if_neg h]
      refine ⟨fun hb m hm h0 hl => ?_, fun hb => ?_⟩
      · by_cases e : m = c
        · subst e
          apply h
          rw [hl, hb]
          simp [h0, better]
        · exact i1 hb m (by omega) h0 hl
      · obtain ⟨j1, j2, j3⟩ := i2 hb
        refine ⟨by omega, j2, fun m hm h0 hl => ?_⟩
        by_cases e : m = c
        · subst e
          refine (better_iff (by omega) (by omega) hb).1 ?_
          rw [Bool.not_eq_true] at h
          rw [hl] at h
          simpa [h0] using h
        · exact j3 m (by omega) h0 hl
theorem ones_length_le {d m : Nat} (h : m < 2 ^ d) : (ones m).length ≤ d := nodup_lt d (ones m) ((ones_asc m).imp fun h => Nat.ne_of_lt h) (ones_lt h)
theorem ones_pos {m : Nat} (hm : m < 4096) (h0 : m ≠ 0) : 0 < (ones m).length := by rw [ones_step m hm h0]; simp
theorem whole_mask {n : Nat} {L : List Int} {k : Nat} {l : List Nat} (hL : L.length ≤ 12) (h : l ∈ whole n L k) : ∃ m, m < 2 ^ L.length ∧ ones m = l ∧ leftU n L m = 0 := by
  unfold whole at h
  rw [List.mem_filter, beq_iff_eq] at h
  obtain ⟨m, hm, e⟩ := combs_mask hL h.1
  exact ⟨m, hm, e, by unfold leftU; rw [e]; exact h.2⟩
theorem mem_whole {n : Nat} {L : List Int} {k m : Nat} (hL : L.length ≤ 12) (hm : m < 2 ^ L.length) (hk : (ones m).length = k) (h : leftU n L m = 0) : ones m ∈ whole n L k := by
  unfold whole
  rw [List.mem_filter, beq_iff_eq]
  exact ⟨(mem_combs_ones hL hm).2 hk, h⟩
/-- THE FEWEST LOADS: by sets and by lists -/
theorem best_some {n : Nat} {L : List Int} (hL : L.length ≤ 12) : someL n L = if bestU n L (2 ^ L.length) = 0 then none else some (ones (bestU n L (2 ^ L.length))) := by
  have hp := pow12 hL
  obtain ⟨i1, i2⟩ := bestU_inv (n := n) (L := L) (2 ^ L.length) hp
  generalize bestU n L (2 ^ L.length) = b at *
  by_cases hb : b = 0
  · rw [if_pos hb]
    refine someU_none _ _ fun i h1 h2 => ?_
    rw [List.eq_nil_iff_forall_not_mem]
    intro l hl
    obtain ⟨m, hm, e, h0⟩ := whole_mask hL hl
    refine i1 hb m hm (fun e2 => ?_) h0
    subst e2
    have := (whole_mem12 hL hl).2.2
    rw [← e, ones_zero] at this
    simp at this; omega
  · rw [if_neg hb]
    obtain ⟨j1, j2, j3⟩ := i2 hb
    have hmem := mem_whole hL j1 rfl j2
    have hasc := whole_asc n L (ones b).length
    cases hw : whole n L (ones b).length with
    | nil => rw [hw] at hmem; simp at hmem
    | cons l r =>
      have hlm : l ∈ whole n L (ones b).length := by rw [hw]; simp
      obtain ⟨m, hm, e, h0⟩ := whole_mask hL hlm
      have hml := (whole_mem12 hL hlm).2.2
      have hpos := ones_pos (show b < 4096 by omega) hb
      have hm0 : m ≠ 0 := fun e2 => by subst e2; rw [ones_zero] at e; subst e; simp at hml; omega
      have hlead := j3 m hm hm0 h0
      have hleb : l = ones b := by
        rw [hw] at hmem hasc
        rcases List.mem_cons.1 hmem with e2 | e2
        · exact e2.symm
        · have := (List.pairwise_cons.1 hasc).1 _ e2
          rcases hlead with h | ⟨_, h⟩
          · rw [e] at h; omega
          · rw [e, this] at h; cases h
      refine (someU_some hw _ _ hpos (by have := ones_length_le j1; omega) fun i h1 h2 => ?_).trans (congrArg some hleb)
      rw [List.eq_nil_iff_forall_not_mem]
      intro l' hl'
      obtain ⟨m', hm', e', h0'⟩ := whole_mask hL hl'
      have hl2 := (whole_mem12 hL hl').2.2
      have hm0' : m' ≠ 0 := fun e2 => by subst e2; rw [ones_zero] at e'; subst e'; simp at hl2; omega
      rcases j3 m' hm' hm0' h0' with h | ⟨h, _⟩ <;> rw [e'] at h <;> omega
end R7
