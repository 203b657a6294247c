/-
  Plain chapter 07: rows of loads as lists of places. Conditions: none.
  Plain chapter 07: loads without a lot leave two numbers. Conditions: none.
  Plain chapter 07: sums of two lists leave at least so many numbers. Conditions: none.
-/
import Derived.Test.YtnblnnfikpenpaaDoorP7m
set_option linter.unusedVariables false
set_option linter.unusedSimpArgs false
set_option linter.deprecated false
namespace R7
theorem take_sum_succ {L : List Int} {k : Nat} (h : k < L.length) : (L.take (k + 1)).sum = (L.take k).sum + L.getD k 0 := by
  rw [List.take_add_one, List.sum_append, List.getD_eq_getElem?_getD]
  simp [h]
theorem wt_range' (L : List Int) (i : Nat) : ∀ m, i + m ≤ L.length → wt L (List.range' i m) = (L.take (i + m)).sum - (L.take i).sum
  | 0, _ => by simp [wt]
  | m + 1, h => by
    rw [List.range'_concat, wt_append, wt_range' L i m (by omega), wt_cons, wt_nil, show i + 1 * m = i + m by omega, show i + (m + 1) = (i + m) + 1 by omega, take_sum_succ (by omega)]
    omega
theorem row_whole {n : Nat} {L : List Int} {i j : Nat} (h : i < j) (hj : j ≤ L.length) (hs : pre n L i = pre n L j) : (List.range' i (j - i)) ∈ whole n L (j - i) := by
  unfold whole
  rw [List.mem_filter, mem_combs, beq_iff_eq, wt_range' L i (j - i) (by omega), show i + (j - i) = j by omega]
  refine ⟨⟨by simp, List.pairwise_lt_range' .., fun x hx => ?_⟩, ?_⟩
  · have := List.mem_range'_1.1 hx; omega
  · unfold pre at hs
    exact Int.emod_eq_emod_iff_emod_sub_eq_zero.1 hs.symm
theorem some_row' {n : Nat} (hn : 0 < n) (L : List Int) (h : n ≤ L.length) : ∃ i j, i < j ∧ j ≤ n ∧ pre n L i = pre n L j := by
  have := pigeon n (fun i => (pre n L i).toNat) (fun i _ => by
    obtain ⟨r, hr, e⟩ := pre_nat hn L i
    show (pre n L i).toNat < n
    omega)
  obtain ⟨i, j, h1, h2, h3⟩ := this
  refine ⟨i, j, h1, h2, ?_⟩
  obtain ⟨r, hr, e⟩ := pre_nat hn L i
  obtain ⟨r', hr', e'⟩ := pre_nat hn L j
  omega
/-- no list weighs whole stones: there are few loads -/
theorem none_few {n : Nat} (hn : 0 < n) {L : List Int} (h : ∀ k, 1 ≤ k → k ≤ L.length → whole n L k = []) : L.length < n ∧ ∀ i j, i < j → j ≤ L.length → pre n L i ≠ pre n L j := by
  have h2 : ∀ i j, i < j → j ≤ L.length → pre n L i ≠ pre n L j := fun i j h1 h2 e => by
    have := row_whole h1 h2 e
    rw [h _ (by omega) (by omega)] at this
    simp at this
  refine ⟨Classical.byContradiction fun hc => ?_, h2⟩
  obtain ⟨i, j, h1, h3, e⟩ := some_row' hn L (by omega)
  exact h2 i j h1 (by omega) e
/-- the fewest loads are no more than the stone has pounds -/
theorem fewest_le {n : Nat} (hn : 0 < n) {L : List Int} {k : Nat} (hk : k ≤ L.length) (h : ∀ i, 1 ≤ i → i < k → whole n L i = []) : k ≤ n := by
  refine Classical.byContradiction fun hc => ?_
  obtain ⟨i, j, h1, h3, e⟩ := some_row' hn L (by omega)
  have := row_whole h1 (show j ≤ L.length by omega) e
  rw [h _ (by omega) (by omega)] at this
  simp at this
end R7

namespace R7
theorem two_numbers {n : Nat} (h2 : 2 ≤ n) (h6 : n ≤ 6) (L : List Int) (hL : L.length = 2 * n - 2) (h0 : whole n L n = []) :
    ∃ x y : Nat, x < y ∧ y < n ∧ Nat.gcd (y - x) n = 1 ∧ (∀ w ∈ L, w % n = x ∨ w % n = y) ∧ (∃ w ∈ L, w % n = x) ∧ (∃ w ∈ L, w % n = y) ∧ L.countP (fun w => w % n == (x : Int)) = n - 1 := by
  obtain ⟨x, y, h1, h3, hg, hp⟩ := two_halves h2 h6 L hL (by rw [h0]; rfl)
  have hm : ∀ r, r ∈ res n L ↔ r = x ∨ r = y := fun r => by
    rw [← hp.mem_iff, List.mem_append, List.mem_replicate, List.mem_replicate]
    constructor
    · rintro (h | h)
      · exact .inr h.2
      · exact .inl h.2
    · rintro (h | h)
      · exact .inr ⟨by omega, h⟩
      · exact .inl ⟨by omega, h⟩
  have hnn : ∀ w : Int, 0 ≤ w % (n : Int) := fun w => Int.emod_nonneg w (by omega)
  have hr : ∀ w ∈ L, (w % (n : Int)).toNat ∈ res n L := fun w hw => List.mem_map.2 ⟨w, hw, rfl⟩
  refine ⟨x, y, h1, h3, hg, fun w hw => ?_, ?_, ?_, ?_⟩
  · have := (hm _).1 (hr w hw)
    have := hnn w
    omega
  · obtain ⟨w, hw, e⟩ := List.mem_map.1 ((hm x).2 (.inl rfl))
    have := hnn w
    exact ⟨w, hw, by omega⟩
  · obtain ⟨w, hw, e⟩ := List.mem_map.1 ((hm y).2 (.inr rfl))
    have := hnn w
    exact ⟨w, hw, by omega⟩
  · have e1 : L.countP (fun w => w % n == (x : Int)) = (res n L).countP (fun r => r == x) := by
      unfold res
      rw [List.countP_map]
      refine List.countP_congr fun w _ => ?_
      have := hnn w
      simp only [Function.comp, beq_iff_eq]; omega
    rw [e1, ← hp.countP_eq, List.countP_append, List.countP_replicate, List.countP_replicate]
    have : (y == x) = false := by simp; omega
    simp [this]
theorem own_none : ∀ n, n ≤ 6 → 2 ≤ n → whole n (List.replicate (n - 1) 0 ++ List.replicate (n - 1) 1) n = [] := by decide +kernel
end R7

namespace R7
/-- numbers below n that two lists of numbers leave together -/
def sumR (n : Nat) (a b : List Nat) : List Nat := (List.range n).filter fun r => a.any fun x => b.any fun y => (x + y) % n == r
def cauB (n : Nat) (a b : List Nat) : Bool := a.length == 0 || b.length == 0 || decide (min n (a.length + b.length - 1) ≤ (sumR n a b).length)
theorem cau_all : ∀ n ∈ [2, 3, 5], ∀ p < 2 ^ n, ∀ q < 2 ^ n, cauB n (ones p) (ones q) = true := by decide +kernel
theorem cauchy {n : Nat} (hn : n = 2 ∨ n = 3 ∨ n = 5) {a b : List Nat} (ha : a.Pairwise (· < ·)) (hb : b.Pairwise (· < ·)) (ha2 : ∀ x ∈ a, x < n) (hb2 : ∀ x ∈ b, x < n) : cauB n a b = true := by
  have h := cau_all n (by rcases hn with h | h | h <;> simp [h]) (maskOf a) (maskOf_lt ha2) (maskOf b) (maskOf_lt hb2)
  rwa [ones_maskOf ha (fun x hx => by have := ha2 x hx; omega), ones_maskOf hb (fun x hx => by have := hb2 x hx; omega)] at h
end R7
