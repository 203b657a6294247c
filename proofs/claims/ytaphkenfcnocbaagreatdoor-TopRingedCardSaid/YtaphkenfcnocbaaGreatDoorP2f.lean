/-
  Chapter 02 in plain words: lists of numbers that are checked, and the sets that they are; two sides. Conditions: none.
-/
import Derived.Test.YtaphkenfcnocbaaGreatDoorP2o
set_option linter.unusedVariables false
set_option linter.unusedSimpArgs false
set_option linter.deprecated false
namespace R2

def lstE (n : Int) : Int → List Int → Int
  | _, [] => 0
  | la, x :: l => if x < 0 ∨ n ≤ x then 2 else if x ≤ la then 7 else lstE n x l
def nats (l : List Int) : List Nat := l.map Int.toNat
def listedM (n : Int) (l : List Int) : Nat := if lstE n (-1) l = 0 then maskOf (nats l) else 0
theorem lstE_zero {n : Int} : ∀ {l : List Int} {la : Int}, lstE n la l = 0 ↔ l.Pairwise (· < ·) ∧ ∀ x ∈ l, la < x ∧ 0 ≤ x ∧ x < n
  | [], la => by simp [lstE]
  | x :: l, la => by
    rw [lstE]
    by_cases h1 : x < 0 ∨ n ≤ x
    · rw [if_pos h1]
      constructor
      · intro h; cases h
      · rintro ⟨_, h⟩; have := h x (by simp); omega
    · rw [if_neg h1]
      by_cases h2 : x ≤ la
      · rw [if_pos h2]
        constructor
        · intro h; cases h
        · rintro ⟨_, h⟩; have := h x (by simp); omega
      · rw [if_neg h2, lstE_zero, List.pairwise_cons, List.forall_mem_cons]
        constructor
        · rintro ⟨a, b⟩
          exact ⟨⟨fun y hy => (b y hy).1, a⟩, ⟨by omega, by omega, by omega⟩, fun y hy => by have := b y hy; omega⟩
        · rintro ⟨⟨a, b⟩, _, d⟩
          exact ⟨b, fun y hy => by have := a y hy; have := d y hy; omega⟩
/-- a list that passes is a set -/
theorem lstE_set {n : Nat} {l : List Int} (h : lstE n (-1) l = 0) : (nats l).Pairwise (· < ·) ∧ (∀ x ∈ nats l, x < n) ∧ l = (nats l).map Int.ofNat := by
  obtain ⟨h1, h2⟩ := lstE_zero.1 h
  refine ⟨List.pairwise_map.2 (List.Pairwise.imp_of_mem (fun {a b} ha hb h => by have := h2 a ha; have := h2 b hb; omega) h1), fun x hx => ?_, ?_⟩
  · obtain ⟨y, hy, rfl⟩ := List.mem_map.1 hx
    have := h2 y hy; omega
  · unfold nats
    rw [List.map_map]
    conv => lhs; rw [← List.map_id l]
    refine List.map_congr_left fun x hx => ?_
    have := (h2 x hx).2.1
    show x = ((x.toNat : Nat) : Int)
    omega
theorem listedM_spec {n : Nat} {l : List Int} (h9 : n ≤ 9) (h : lstE n (-1) l = 0) : listedM n l < 2 ^ n ∧ ones (listedM n l) = nats l ∧ ∀ i, (listedM n l).testBit i = true ↔ i ∈ nats l := by
  obtain ⟨h1, h2, h3⟩ := lstE_set h
  have e : listedM n l = maskOf (nats l) := by unfold listedM; rw [if_pos h]
  rw [e]
  exact ⟨maskOf_lt h2, ones_maskOf h1 fun x hx => by have := h2 x hx; omega, maskOf_bit _⟩
theorem maskOf_snoc (l : List Nat) (x : Nat) : maskOf (l ++ [x]) = maskOf l ||| 2 ^ x := by
  apply Nat.eq_of_testBit_eq
  intro i
  rw [Bool.eq_iff_iff, maskOf_bit, Nat.testBit_or, Bool.or_eq_true, maskOf_bit, Nat.testBit_two_pow, decide_eq_true_eq, List.mem_append, List.mem_singleton, eq_comm (a := x)]
def enoughE (n : Int) (L : List EI) (l : List Int) : Int :=
  if checkM n L = 0 then (if lstE L.length (-1) l = 0 then (if okJ (natL L) (listedM L.length l) then 0 else 14) else lstE L.length (-1) l) else checkM n L
end R2
