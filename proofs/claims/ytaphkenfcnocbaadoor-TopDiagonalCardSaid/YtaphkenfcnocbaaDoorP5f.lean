/-
  Chapter 05 in plain words: what is known of spans, in a table. Conditions: none.
-/
import Derived.Test.YtaphkenfcnocbaaDoorP5a
set_option linter.unusedVariables false
set_option linter.unusedSimpArgs false
set_option linter.deprecated false
namespace R5

/-- what is known of a span -/
structure Sp where
  sum : Int
  least : Int
  many : Int
  first : Int
  last : Int
  deriving DecidableEq
def Sp.zero : Sp := ⟨0, 0, 0, 0, 0⟩
/-- what is known behind the first i tops -/
def invSp (L : List Int) (a n i : Nat) : Sp :=
  let l := argL (topQ L a n) (List.range i)
  ⟨sumOf L a n, minL ((List.range i).map (topQ L a n)), ((l.map (partM L a n)).sum : Nat), if l = [] then 0 else ((a + l.headD 0 : Nat) : Int), if l = [] then 0 else ((a + l.getLastD 0 : Nat) : Int)⟩
/-- what is known of the kinds from a to b -/
def spanOf (L : List Int) (a b : Nat) : Sp := if a = b then ⟨L.getD a 0, 0, 1, 0, 0⟩ else invSp L a (b - a + 1) (b - a)
theorem argL_ne {α : Type} (c : α → Int) {l : List α} (h : l ≠ []) : argL c l ≠ [] := by
  have hm := minL_mem (l := l.map c) (by simpa using h)
  obtain ⟨x, hx, he⟩ := List.mem_map.1 hm
  have : x ∈ argL c l := List.mem_filter.2 ⟨hx, by simp [he]⟩
  intro e
  rw [e] at this; cases this
theorem getD_sumOf (L : List Int) (a : Nat) : L.getD a 0 = sumOf L a 1 := by
  unfold sumOf
  rw [List.getD_eq_getElem?_getD]
  cases h : L[a]? with
  | none =>
    have := List.getElem?_eq_none_iff.1 h
    rw [List.drop_of_length_le this]; rfl
  | some x =>
    have hlt : a < L.length := by
      rw [List.getElem?_eq_some_iff] at h; exact h.1
    rw [List.drop_eq_getElem_cons hlt]
    have : L[a] = x := by rw [List.getElem?_eq_getElem hlt] at h; simpa using h
    simp [this]
theorem spanOf_sum (L : List Int) {a b : Nat} (h : a ≤ b) : (spanOf L a b).sum = sumOf L a (b - a + 1) := by
  unfold spanOf
  split
  · rename_i e; subst e; rw [Nat.sub_self]; exact getD_sumOf L a
  · rfl
theorem spanOf_least (L : List Int) {a b : Nat} (h : a ≤ b) : (spanOf L a b).least = least L a (b - a + 1) := by
  unfold spanOf
  split
  · rename_i e; subst e; rw [Nat.sub_self]; rfl
  · rw [least_step L a (by omega)]; rfl
theorem spanOf_many (L : List Int) {a b : Nat} (h : a ≤ b) : (spanOf L a b).many = many L a (b - a + 1) := by
  unfold spanOf
  split
  · rename_i e; subst e; rw [Nat.sub_self, many_one]; rfl
  · rw [many_tops L a (by omega)]; rfl
theorem spanOf_first (L : List Int) {a b : Nat} (h : a < b) : (spanOf L a b).first = (a + firstT L a (b - a + 1) : Nat) := by
  unfold spanOf
  rw [if_neg (by omega)]
  have hn := tops_ne L a (n := b - a + 1) (by omega)
  unfold invSp
  have e : argL (topQ L a (b - a + 1)) (List.range (b - a)) = tops L a (b - a + 1) := rfl
  simp only [e, if_neg hn]; rfl
theorem invSp_zero (L : List Int) (a n : Nat) : invSp L a n 0 = ⟨sumOf L a n, 0, 0, 0, 0⟩ := rfl
/-- a top more -/
theorem invSp_succ (L : List Int) (a n i : Nat) : invSp L a n (i + 1) =
    (let s := invSp L a n i
     if i = 0 ∨ topQ L a n i < s.least then ⟨s.sum, topQ L a n i, partM L a n i, (a + i : Nat), (a + i : Nat)⟩
     else if topQ L a n i = s.least then ⟨s.sum, s.least, s.many + partM L a n i, s.first, (a + i : Nat)⟩ else s) := by
  have hs := argL_snoc (topQ L a n) (List.range i) i
  have hm := minL_snoc ((List.range i).map (topQ L a n)) (topQ L a n i)
  have e1 : (List.range (i + 1)).map (topQ L a n) = (List.range i).map (topQ L a n) ++ [topQ L a n i] := by rw [List.range_succ, List.map_append]; rfl
  have z : List.range i = [] ↔ i = 0 := by simp
  unfold invSp
  simp only
  rw [e1, List.range_succ, hs, hm]
  simp only [List.map_eq_nil_iff, z]
  by_cases h0 : i = 0 ∨ topQ L a n i < minL ((List.range i).map (topQ L a n))
  · simp [h0]
  · simp only [if_neg h0]
    by_cases h1 : topQ L a n i = minL ((List.range i).map (topQ L a n))
    · have hne : argL (topQ L a n) (List.range i) ≠ [] := argL_ne _ (by rw [ne_eq, z]; exact fun h => h0 (.inl h))
      simp only [if_pos h1, List.map_append, List.sum_append, List.map_cons, List.map_nil, List.sum_cons, List.sum_nil, Nat.add_zero, Int.natCast_add, List.append_eq_nil_iff, hne, false_and, if_false, List.cons_ne_nil]
      congr 1
      · cases h : argL (topQ L a n) (List.range i) with
        | nil => exact absurd h hne
        | cons x l => simp
      · simp
    · simp [h1]
theorem invSp_many0 (L : List Int) (a n i : Nat) (hn : i < n) : ((invSp L a n i).many == 0) = decide (i = 0) := by
  unfold invSp
  simp only
  by_cases h : i = 0
  · subst h; rfl
  · have hne : argL (topQ L a n) (List.range i) ≠ [] := argL_ne _ (by simpa using h)
    have hmem := headD_mem hne
    have hx := (List.mem_filter.1 hmem).1
    have hi := List.mem_range.1 hx
    have hp : 1 ≤ partM L a n ((argL (topQ L a n) (List.range i)).headD 0) := Nat.mul_le_mul (many_pos L a (by omega)) (many_pos L _ (by omega))
    have hs : partM L a n ((argL (topQ L a n) (List.range i)).headD 0) ≤ ((argL (topQ L a n) (List.range i)).map (partM L a n)).sum := by
      cases hc : argL (topQ L a n) (List.range i) with
      | nil => exact absurd hc hne
      | cons x l => simp
    rw [decide_eq_false h]
    rw [beq_eq_false_iff_ne]
    omega
theorem invSp_bd {L : List Int} (h : Loads L) (a : Nat) {n i : Nat} (hi : i < n) (h8 : n ≤ 8) : 0 ≤ (invSp L a n i).sum ∧ (invSp L a n i).sum ≤ 800 ∧ 0 ≤ (invSp L a n i).least ∧ (invSp L a n i).least ≤ 12000 ∧ 0 ≤ (invSp L a n i).many ∧ (invSp L a n i).many ≤ 1000000 * i := by
  have hs := sumOf_bd h a n
  refine ⟨hs.1, by show sumOf L a n ≤ 800; omega, ?_⟩
  have hq : ∀ j, j < i → 0 ≤ topQ L a n j ∧ topQ L a n j ≤ 12000 := by
    intro j hj
    have h1 := least_bd h a (n := j + 1) (by omega) (by omega)
    have h2 := least_bd h (a + (j + 1)) (n := n - 1 - j) (by omega) (by omega)
    unfold topQ; omega
  have hl : 0 ≤ minL ((List.range i).map (topQ L a n)) ∧ minL ((List.range i).map (topQ L a n)) ≤ 12000 := by
    by_cases h0 : i = 0
    · subst h0; simp [minL]
    · have := minL_mem (l := (List.range i).map (topQ L a n)) (by simpa using h0)
      obtain ⟨j, hj, he⟩ := List.mem_map.1 this
      rw [← he]; exact hq j (List.mem_range.1 hj)
  refine ⟨hl.1, hl.2, by show (0 : Int) ≤ ((_ : Nat) : Int); omega, ?_⟩
  have hpm : ∀ j, j < i → partM L a n j ≤ 1000000 := by
    intro j hj
    have h1 := many_lt L a (n := j + 1) (by omega)
    have h2 := many_lt L (a + (j + 1)) (n := n - 1 - j) (by omega)
    unfold partM
    have := Nat.mul_le_mul h1 h2
    omega
  have gen : ∀ l : List Nat, (∀ j ∈ l, j < i) → (l.map (partM L a n)).sum ≤ 1000000 * l.length := by
    intro l
    induction l with
    | nil => intro _; simp
    | cons x l ih =>
      intro hl
      have h1 := hpm x (hl x (by simp))
      have h2 := ih fun j hj => hl j (List.mem_cons_of_mem _ hj)
      simp only [List.map_cons, List.sum_cons, List.length_cons]; omega
  have h1 := gen (argL (topQ L a n) (List.range i)) fun j hj => List.mem_range.1 (List.mem_filter.1 hj).1
  have h2 : (argL (topQ L a n) (List.range i)).length ≤ i := by
    have := List.length_filter_le (fun x => topQ L a n x == minL ((List.range i).map (topQ L a n))) (List.range i)
    simpa [argL] using this
  show (((_ : Nat) : Int)) ≤ _
  have : 1000000 * (argL (topQ L a n) (List.range i)).length ≤ 1000000 * i := Nat.mul_le_mul_left _ h2
  omega
theorem spanOf_bd {L : List Int} (h : Loads L) {a b : Nat} (hab : a ≤ b) (h8 : b - a + 1 ≤ 8) : 0 ≤ (spanOf L a b).sum ∧ (spanOf L a b).sum ≤ 800 ∧ 0 ≤ (spanOf L a b).least ∧ (spanOf L a b).least ≤ 5600 ∧ 1 ≤ (spanOf L a b).many ∧ (spanOf L a b).many ≤ 429 := by
  have h1 := sumOf_bd h a (b - a + 1)
  have h2 := least_bd h a (n := b - a + 1) (by omega) h8
  have h3 := many_pos L a (n := b - a + 1) (by omega)
  have h4 := many_lt L a h8
  rw [spanOf_sum L hab, spanOf_least L hab, spanOf_many L hab]
  omega
end R5
