/-
  Plain laws of the fewest facts, by numbers. Conditions: none.
-/
import Derived.Test.YthhfgcejamfinaaDoorP6q
set_option linter.unusedVariables false
set_option linter.unusedSimpArgs false
set_option linter.deprecated false
namespace Go.V.R6

/-- whether a set is better than another one: fewer facts, or as many that come first -/
def bet (x b : Nat) : Bool := decide ((lst x).length < (lst b).length) || (decide ((lst x).length = (lst b).length) && decide (cmpL (lst x) (lst b) < 0))
def bestU (p : Nat → Bool) : Nat → Option Nat
  | 0 => none
  | k + 1 => if (p k && (match bestU p k with
    | none => true
    | some b => bet k b)) = true then some k else bestU p k
theorem bet_trans {x y z : Nat} (h1 : bet x y = false) (h2 : bet y z = false) : bet x z = false := by
  unfold bet at *
  simp only [Bool.or_eq_false_iff, Bool.and_eq_false_iff, decide_eq_false_iff_not] at *
  obtain ⟨a1, a2⟩ := h1
  obtain ⟨b1, b2⟩ := h2
  refine ⟨by omega, ?_⟩
  by_cases e : (lst x).length = (lst z).length
  · right
    have e1 : (lst x).length = (lst y).length := by omega
    have e2 : (lst y).length = (lst z).length := by omega
    exact cmpL_ntrans (a2.resolve_left (fun h => h e1)) (b2.resolve_left (fun h => h e2))
  · exact .inl e
theorem bet_total {x y : Nat} (h : bet x y = true) : bet y x = false := by
  unfold bet at *
  simp only [Bool.or_eq_true, Bool.and_eq_true, decide_eq_true_eq] at h
  simp only [Bool.or_eq_false_iff, Bool.and_eq_false_iff, decide_eq_false_iff_not]
  have := cmpL_anti (lst x) (lst y)
  omega
theorem bestU_spec (p : Nat → Bool) : ∀ k, (match bestU p k with
    | none => ∀ x, x < k → p x = false
    | some b => b < k ∧ p b = true ∧ ∀ x, x < k → p x = true → bet x b = false)
  | 0 => by simp [bestU]
  | k + 1 => by
    have ih := bestU_spec p k
    unfold bestU
    cases hb : bestU p k with
    | none =>
      rw [hb] at ih
      simp only [Bool.and_true]
      by_cases hp : p k = true
      · rw [if_pos hp]
        refine ⟨by omega, hp, fun x hx hpx => ?_⟩
        by_cases e : x = k
        · subst e; simp [bet, cmpL_refl]
        · rw [ih x (by omega)] at hpx; cases hpx
      · rw [if_neg hp]
        intro x hx
        by_cases e : x = k
        · subst e; simpa using hp
        · exact ih x (by omega)
    | some b =>
      rw [hb] at ih
      obtain ⟨h1, h2, h3⟩ := ih
      by_cases hp : (p k && bet k b) = true
      · simp only [hp, if_true]
        rw [Bool.and_eq_true] at hp
        refine ⟨by omega, hp.1, fun x hx hpx => ?_⟩
        by_cases e : x = k
        · subst e; simp [bet, cmpL_refl]
        · exact bet_trans (h3 x (by omega) hpx) (bet_total hp.2)
      · rw [if_neg hp]
        refine ⟨by omega, h2, fun x hx hpx => ?_⟩
        by_cases e : x = k
        · subst e
          cases hb2 : bet x b with
          | false => rfl
          | true => exact absurd (by rw [hpx, hb2]; rfl) hp
        · exact h3 x (by omega) hpx
theorem bestU_lt {p : Nat → Bool} {k b : Nat} (h : bestU p k = some b) : b < k := by
  have := bestU_spec p k; rw [h] at this; exact this.1

theorem minOf_first : ∀ (t : List Nat) (x : Nat), (x :: t).Pairwise (fun x y => ¬ cmpF y x < 0) → ∀ z ∈ x :: t, oc8 (minOf (x :: t)) ≤ oc8 z ∧ (oc8 z = oc8 (minOf (x :: t)) → ¬ cmpF z (minOf (x :: t)) < 0)
  | [], x, _, z, hz => by
    obtain rfl : z = x := by simpa using hz
    have : minOf [z] = z := rfl
    rw [this]
    exact ⟨Nat.le_refl _, fun _ => by unfold cmpF; rw [cmpL_refl]; omega⟩
  | y :: t, x, hp, z, hz => by
    rw [List.pairwise_cons] at hp
    have ih := minOf_first t y hp.2
    rw [minOf_cons]
    have hm := minOf_mem y t
    split
    · rename_i hle
      rcases List.mem_cons.1 hz with rfl | hz
      · exact ⟨Nat.le_refl _, fun _ => by unfold cmpF; rw [cmpL_refl]; omega⟩
      · exact ⟨Nat.le_trans hle (ih z hz).1, fun _ => hp.1 z hz⟩
    · rename_i hle
      rcases List.mem_cons.1 hz with rfl | hz
      · exact ⟨by omega, fun e => by omega⟩
      · exact ih z hz
theorem lst_oc8 (m : Nat) : (lst m).length = oc8 m := by simp [lst, oc8]

/-- THE FEWEST FACTS: the first of the smallest, whichever way it is looked for -/
theorem few_bk {n : Nat} {L : Rs} (h1 : 1 ≤ n) (h6 : n ≤ 6) (hl : L.length ≤ 8) (hok : Ok L n) {s : Nat} (hs : s < 2 ^ n) :
    ∃ b, bestU (fun x => clo L n x == clo L n s) (2 ^ n) = some b ∧ fewM (n : Int) (bk L) (lst s) = lst b := by
  have h64 := pow64 h6
  have hp := Nat.two_pow_pos n
  have hspec := bestU_spec (fun x => clo L n x == clo L n s) (2 ^ n)
  have hfew : fewM (n : Int) (bk L) (lst s) = lst (minOf (sortedM (2 ^ n - 1) (fun f => fol (knL L) (-1) f == fol (knL L) (-1) s))) := by
    rw [fewM, if_pos (asked_bk h1 h6 hl hok hs), openedM_bk h1 h6 hl hok, askedM_bk h1 h6 hl hok hs]
  have hfol : ∀ x, x < 2 ^ n → fol (knL L) (-1) x = clo L n x := fun x hx => by
    have := fol_bk h1 h6 hl hok hx
    rw [openedM_bk h1 h6 hl hok] at this; exact this
  have hmem : ∀ x, x ∈ sortedM (2 ^ n - 1) (fun f => fol (knL L) (-1) f == fol (knL L) (-1) s) ↔ x < 2 ^ n ∧ clo L n x = clo L n s := by
    intro x
    rw [sortedM_mem]
    constructor
    · rintro ⟨a, b⟩
      have hx : x < 2 ^ n := by omega
      rw [hfol x hx, hfol s hs, beq_iff_eq] at b
      exact ⟨hx, b⟩
    · rintro ⟨a, b⟩
      exact ⟨by omega, by rw [hfol x a, hfol s hs, beq_iff_eq]; exact b⟩
  have hsorted : (sortedM (2 ^ n - 1) (fun f => fol (knL L) (-1) f == fol (knL L) (-1) s)).Pairwise (fun x y => ¬ cmpF y x < 0) := by
    unfold sortedM
    exact isort_sorted (cmpF_tot (fun x hx => by have := (uptoF_mem.1 hx).1; omega))
  rw [hfew]
  generalize sortedM (2 ^ n - 1) (fun f => fol (knL L) (-1) f == fol (knL L) (-1) s) = l at *
  cases hb : bestU (fun x => clo L n x == clo L n s) (2 ^ n) with
  | none =>
    rw [hb] at hspec
    have := hspec s hs
    simp at this
  | some b =>
    rw [hb] at hspec
    obtain ⟨b1, b2, b3⟩ := hspec
    refine ⟨b, rfl, ?_⟩
    rw [beq_iff_eq] at b2
    have hbl : b ∈ l := (hmem b).2 ⟨b1, b2⟩
    cases l with
    | nil => simp at hbl
    | cons x t =>
      have hm := minOf_mem x t
      obtain ⟨m1, m2⟩ := (hmem _).1 hm
      have hf := minOf_first t x hsorted b hbl
      have hg := b3 _ m1 (by rw [beq_iff_eq]; exact m2)
      generalize minOf (x :: t) = m at *
      unfold bet at hg
      simp only [Bool.or_eq_false_iff, Bool.and_eq_false_iff, decide_eq_false_iff_not, lst_oc8] at hg
      have e : oc8 m = oc8 b := by omega
      have c1 := hg.2.resolve_left (fun h => h e)
      have c2 := hf.2 e.symm
      unfold cmpF at c2
      have := cmpL_anti (lst m) (lst b)
      exact cmpL_eq.1 (by omega)
end Go.V.R6
