/-
  LotNamed: heavier loads, and another order, as lists. Conditions: none.
-/
import Derived.Test.YtnblnnfikpenpaaDoorP7r
set_option linter.unusedVariables false
set_option linter.unusedSimpArgs false
set_option linter.deprecated false
namespace R7
set_option maxRecDepth 100000
set_option maxHeartbeats 4000000

/-- the first j of one list, the others of another one -/
def tad (A B : List Int) (j : Nat) : List Int := A.take j ++ B.drop j
theorem tad_zero (A B : List Int) : tad A B 0 = B := by simp [tad]
theorem tad_all {A B : List Int} (h : A.length = B.length) : tad A B A.length = A := by
  unfold tad
  rw [List.take_length, List.drop_of_length_le (by omega), List.append_nil]
theorem tad_length {A B : List Int} (h : A.length = B.length) (j : Nat) : (tad A B j).length = A.length := by
  simp [tad]; omega
theorem tad_get {A B : List Int} (h : A.length = B.length) {j : Nat} {b : Int} (hb : B[j]? = some b) : (tad A B j)[j]? = some b := by
  have hl : j < B.length := by
    obtain ⟨h1, _⟩ := List.getElem?_eq_some_iff.1 hb; exact h1
  unfold tad
  rw [List.getElem?_append_right (by rw [List.length_take]; omega), List.getElem?_drop, List.length_take, show j + (j - min j A.length) = j by omega, hb]
theorem tad_set {A B : List Int} (h : A.length = B.length) {j : Nat} {a : Int} (ha : A[j]? = some a) : (tad A B j).set j a = tad A B (j + 1) := by
  obtain ⟨h1, h2⟩ := List.getElem?_eq_some_iff.1 ha
  have hl : (A.take j).length = j := by rw [List.length_take]; omega
  unfold tad
  rw [List.set_append_right _ _ (by omega), hl, Nat.sub_self, List.drop_eq_getElem_cons (show j < B.length by omega), List.set_cons_zero, List.take_add_one, ha]
  simp
/-- another order: two change places -/
def swapL (M : List Int) (i k : Nat) : List Int := (M.set i (M.getD k 0)).set k (M.getD i 0)
theorem swap_perm {M : List Int} {i k : Nat} (hi : i < M.length) (hk : k < M.length) : (swapL M i k).Perm M := by
  have h := List.set_set_perm hi hk
  unfold swapL
  rw [show M.getD k 0 = M[k] by simp [hk], show M.getD i 0 = M[i] by simp [hi]]
  exact h
/-- heavier loads -/
def heavyL (n more : Nat) (B : List Nat) (L : List Int) : List Int := (List.range L.length).map fun i => L.getD i 0 + ((more : Int) + (n : Int) * ((B.getD i 0 % 30 : Nat) : Int))
theorem heavy_len (n more : Nat) (B : List Nat) (L : List Int) : (heavyL n more B L).length = L.length := by simp [heavyL]
theorem heavy_get {n more : Nat} {B : List Nat} {L : List Int} {i : Nat} {x : Int} (h : L[i]? = some x) : (heavyL n more B L)[i]? = some (x + ((more : Int) + (n : Int) * ((B.getD i 0 % 30 : Nat) : Int))) := by
  obtain ⟨h1, h2⟩ := List.getElem?_eq_some_iff.1 h
  unfold heavyL
  rw [List.getElem?_map, List.getElem?_range h1, Option.map_some, List.getD_eq_getElem?_getD (l := L), h, Option.getD_some]
theorem heavy_whole (n more : Nat) (B : List Nat) (L : List Int) : whole n (heavyL n more B L) n = whole n L n := by
  refine whole_shift (c := more) (heavy_len ..) fun i hi => ?_
  obtain ⟨x, hx⟩ : ∃ x, L[i]? = some x := ⟨_, List.getElem?_eq_getElem hi⟩
  rw [show (heavyL n more B L).getD i 0 = x + ((more : Int) + (n : Int) * ((B.getD i 0 % 30 : Nat) : Int)) by rw [List.getD_eq_getElem?_getD, heavy_get hx, Option.getD_some], show L.getD i 0 = x by rw [List.getD_eq_getElem?_getD, hx, Option.getD_some], ← Int.add_assoc, Int.add_mul_emod_self_left]
theorem heavy_mem {n more : Nat} {B : List Nat} {L : List Int} (hn : n ≤ 6) (hm : more < 256) (hL : ∀ x ∈ L, 0 ≤ x ∧ x < 500) : ∀ x ∈ heavyL n more B L, 0 ≤ x ∧ x ≤ 1000 := by
  intro x hx
  obtain ⟨i, hi, rfl⟩ := List.mem_map.1 hx
  have hil := List.mem_range.1 hi
  have h1 := hL (L.getD i 0) (by rw [List.getD_eq_getElem?_getD, List.getElem?_eq_getElem hil]; exact List.getElem_mem hil)
  have h2 : B.getD i 0 % 30 ≤ 29 := by omega
  have h3 : n * (B.getD i 0 % 30) ≤ 6 * 29 := Nat.mul_le_mul hn h2
  have h4 : (n : Int) * ((B.getD i 0 % 30 : Nat) : Int) = ((n * (B.getD i 0 % 30) : Nat) : Int) := by push_cast; rfl
  rw [h4]
  omega
/-- what is left by 500 -/
def lessL (L : List Int) : List Int := L.map fun x => x % 500
theorem less_len (L : List Int) : (lessL L).length = L.length := by simp [lessL]
theorem less_get {L : List Int} {i : Nat} {x : Int} (h : L[i]? = some x) : (lessL L)[i]? = some (x % 500) := by simp [lessL, h]
theorem less_mem (L : List Int) : ∀ x ∈ lessL L, 0 ≤ x ∧ x < 500 := by
  intro x hx
  obtain ⟨y, _, rfl⟩ := List.mem_map.1 hx
  omega
end R7
