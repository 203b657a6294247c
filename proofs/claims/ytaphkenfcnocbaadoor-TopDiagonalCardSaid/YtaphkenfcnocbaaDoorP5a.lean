/-
  Chapter 05 in plain words: trees of kinds, their lists and depths; all trees, in the order of their lists. Conditions: none.
  Chapter 05 in plain words: the best trees by spans, and by trying all. Conditions: none.
  Chapter 05 in plain words: the least questions in any order. Conditions: none.
  Chapter 05 in plain words: how many trees, and the tree with a number; the list of a tree read; the tree of depths. Conditions: none.
  Chapter 05 in plain words: the tree of depths, made from the left. Conditions: none.
-/
set_option linter.unusedVariables false
set_option linter.unusedSimpArgs false
set_option linter.deprecated false
namespace R5

/-- a tree of kinds: a kind alone, or a sieve with what falls through and what stays -/
inductive T where
  | leaf
  | node (l r : T)
  deriving DecidableEq, Repr

def T.kinds : T → Nat
  | .leaf => 1
  | .node l r => l.kinds + r.kinds
/-- the list of a tree whose first kind is a -/
def T.enc : T → Nat → List Int
  | .leaf, _ => []
  | .node l r, a => ((a + l.kinds - 1 : Nat) : Int) :: (l.enc a ++ r.enc (a + l.kinds))
/-- all trees of n kinds -/
def allF : Nat → Nat → List T
  | 0, _ => [.leaf]
  | f + 1, n => if n ≤ 1 then [.leaf] else (List.range (n - 1)).flatMap fun i => (allF f (i + 1)).flatMap fun l => (allF f (n - 1 - i)).map fun r => .node l r
def all (n : Nat) : List T := allF n n

theorem T.kinds_pos (t : T) : 1 ≤ t.kinds := by
  induction t with
  | leaf => simp [T.kinds]
  | node l r h1 h2 => simp only [T.kinds]; omega
theorem allF_eq : ∀ (f g n : Nat), n ≤ f → n ≤ g → allF f n = allF g n := by
  intro f
  induction f with
  | zero => intro g n hf hg; obtain rfl : n = 0 := by omega
            cases g with
            | zero => rfl
            | succ g => simp [allF]
  | succ f ih =>
    intro g n hf hg
    cases g with
    | zero => obtain rfl : n = 0 := by omega
              simp [allF]
    | succ g =>
      simp only [allF]
      split
      · rfl
      · have e : ∀ i, i ∈ List.range (n - 1) → ((allF f (i + 1)).flatMap fun l => (allF f (n - 1 - i)).map fun r => T.node l r) = (allF g (i + 1)).flatMap fun l => (allF g (n - 1 - i)).map fun r => T.node l r := by
          intro i hi
          have := List.mem_range.1 hi
          rw [ih g (i + 1) (by omega) (by omega), ih g (n - 1 - i) (by omega) (by omega)]
        rw [List.flatMap_def, List.flatMap_def, List.map_congr_left e]
theorem all_one : all 1 = [.leaf] := rfl
theorem all_step {n : Nat} (h : 2 ≤ n) : all n = (List.range (n - 1)).flatMap fun i => (all (i + 1)).flatMap fun l => (all (n - 1 - i)).map fun r => .node l r := by
  obtain ⟨m, rfl⟩ : ∃ m, n = m + 1 := ⟨n - 1, by omega⟩
  unfold all
  rw [allF, if_neg (by omega)]
  have e : ∀ i, i ∈ List.range (m + 1 - 1) → ((allF m (i + 1)).flatMap fun l => (allF m (m + 1 - 1 - i)).map fun r => T.node l r) = (allF (i + 1) (i + 1)).flatMap fun l => (allF (m + 1 - 1 - i) (m + 1 - 1 - i)).map fun r => T.node l r := by
    intro i hi
    have := List.mem_range.1 hi
    rw [allF_eq m (i + 1) (i + 1) (by omega) (by omega), allF_eq m (m + 1 - 1 - i) (m + 1 - 1 - i) (by omega) (by omega)]
  rw [List.flatMap_def, List.flatMap_def, List.map_congr_left e]
theorem mem_all {n : Nat} (h : 1 ≤ n) (t : T) : t ∈ all n ↔ t.kinds = n := by
  induction n using Nat.strongRecOn generalizing t with
  | _ n ih =>
    by_cases h1 : n = 1
    · subst h1
      rw [all_one]
      cases t with
      | leaf => simp [T.kinds]
      | node l r =>
        have := l.kinds_pos; have := r.kinds_pos
        simp [T.kinds]; omega
    · rw [all_step (by omega)]
      simp only [List.mem_flatMap, List.mem_range, List.mem_map]
      constructor
      · rintro ⟨i, hi, l, hl, r, hr, rfl⟩
        have h2 := (ih (i + 1) (by omega) (by omega) l).1 hl
        have h3 := (ih (n - 1 - i) (by omega) (by omega) r).1 hr
        simp only [T.kinds]; omega
      · intro ht
        cases t with
        | leaf => simp [T.kinds] at ht; omega
        | node l r =>
          have h2 := l.kinds_pos; have h3 := r.kinds_pos
          simp only [T.kinds] at ht
          exact ⟨l.kinds - 1, by omega, l, (ih _ (by omega) (by omega) l).2 (by omega), r, (ih _ (by omega) (by omega) r).2 (by omega), rfl⟩
theorem T.enc_length (t : T) (a : Nat) : (t.enc a).length = t.kinds - 1 := by
  induction t generalizing a with
  | leaf => rfl
  | node l r h1 h2 =>
    have h3 := l.kinds_pos; have h4 := r.kinds_pos
    simp only [T.enc, T.kinds, List.length_cons, List.length_append, h1, h2]; omega
/-! ### loads, and the best trees -/
/-- the loads of n kinds from a on -/
def sumOf (L : List Int) (a n : Nat) : Int := ((L.drop a).take n).sum
/-- the questions of a tree whose first kind is a -/
def T.cost (L : List Int) : T → Nat → Int
  | .leaf, _ => 0
  | .node l r, a => l.cost L a + r.cost L (a + l.kinds) + sumOf L a (l.kinds + r.kinds)
theorem take_drop_add {α : Type} (L : List α) (a m n : Nat) : (L.drop a).take (m + n) = (L.drop a).take m ++ (L.drop (a + m)).take n := by
  rw [List.take_add, List.drop_drop]
theorem sumOf_add (L : List Int) (a m n : Nat) : sumOf L a (m + n) = sumOf L a m + sumOf L (a + m) n := by
  unfold sumOf; rw [take_drop_add, List.sum_append]
/-- the smallest of some numbers -/
def minL : List Int → Int
  | [] => 0
  | x :: l => l.foldl min x
theorem foldl_min_le : ∀ (l : List Int) (x : Int), l.foldl min x ≤ x ∧ ∀ y ∈ l, l.foldl min x ≤ y
  | [], x => by simp
  | z :: l, x => by
    obtain ⟨h1, h2⟩ := foldl_min_le l (min x z)
    simp only [List.foldl_cons]
    refine ⟨by omega, fun y hy => ?_⟩
    rcases List.mem_cons.1 hy with rfl | hy
    · omega
    · exact h2 y hy
theorem foldl_min_mem : ∀ (l : List Int) (x : Int), l.foldl min x = x ∨ l.foldl min x ∈ l
  | [], x => by simp
  | z :: l, x => by
    simp only [List.foldl_cons]
    rcases foldl_min_mem l (min x z) with h | h
    · rw [h]
      rcases Int.le_total x z with h' | h'
      · rw [Int.min_eq_left h']; exact .inl rfl
      · rw [Int.min_eq_right h']; exact .inr (by simp)
    · exact .inr (List.mem_cons_of_mem _ h)
theorem minL_le {l : List Int} {y : Int} (h : y ∈ l) : minL l ≤ y := by
  cases l with
  | nil => simp at h
  | cons x l =>
    rcases List.mem_cons.1 h with rfl | h
    · exact (foldl_min_le l y).1
    · exact (foldl_min_le l x).2 y h
theorem minL_mem {l : List Int} (h : l ≠ []) : minL l ∈ l := by
  cases l with
  | nil => simp at h
  | cons x l =>
    rcases foldl_min_mem l x with h | h
    · simp [minL, h]
    · exact List.mem_cons_of_mem _ h
theorem minL_eq {l : List Int} {m : Int} (h : m ∈ l) (hm : ∀ y ∈ l, m ≤ y) : minL l = m := by
  have h1 := minL_le h
  have h2 := hm _ (minL_mem (by intro e; simp [e] at h))
  omega

/-- the least questions of n kinds from a on -/
def least (L : List Int) (a n : Nat) : Int := minL ((all n).map fun t => t.cost L a)
/-- the best trees of n kinds from a on -/
def bests (L : List Int) (a n : Nat) : List T := (all n).filter fun t => t.cost L a == least L a n

theorem all_ne {n : Nat} (h : 1 ≤ n) : all n ≠ [] := by
  have : ∀ n, 1 ≤ n → ∃ t : T, t.kinds = n := by
    intro n h
    induction n with
    | zero => omega
    | succ n ih =>
      cases n with
      | zero => exact ⟨.leaf, rfl⟩
      | succ n => obtain ⟨t, ht⟩ := ih (by omega); exact ⟨.node .leaf t, by simp [T.kinds, ht]; omega⟩
  obtain ⟨t, ht⟩ := this n h
  intro e
  have := (mem_all h t).2 ht
  simp [e] at this
theorem least_le {L : List Int} {a n : Nat} (h : 1 ≤ n) {t : T} (ht : t.kinds = n) : least L a n ≤ t.cost L a :=
  minL_le (List.mem_map.2 ⟨t, (mem_all h t).2 ht, rfl⟩)
theorem least_mem {L : List Int} {a n : Nat} (h : 1 ≤ n) : ∃ t : T, t.kinds = n ∧ t.cost L a = least L a n := by
  have := minL_mem (l := (all n).map fun t => t.cost L a) (by simpa using all_ne h)
  obtain ⟨t, ht, he⟩ := List.mem_map.1 this
  exact ⟨t, (mem_all h t).1 ht, he⟩
theorem least_one (L : List Int) (a : Nat) : least L a 1 = 0 := rfl
theorem bests_one (L : List Int) (a : Nat) : bests L a 1 = [.leaf] := by
  simp [bests, all_one, least_one, T.cost]
/-- the questions if the top is the one with i + 1 kinds that fall through -/
def topQ (L : List Int) (a n i : Nat) : Int := least L a (i + 1) + least L (a + (i + 1)) (n - 1 - i) + sumOf L a n
theorem least_step (L : List Int) (a : Nat) {n : Nat} (h : 2 ≤ n) : least L a n = minL ((List.range (n - 1)).map (topQ L a n)) := by
  refine (minL_eq ?_ ?_).symm
  · obtain ⟨t, ht, he⟩ := least_mem (L := L) (a := a) (n := n) (by omega)
    cases t with
    | leaf => simp [T.kinds] at ht; omega
    | node l r =>
      have h1 := l.kinds_pos; have h2 := r.kinds_pos
      simp only [T.kinds] at ht
      refine List.mem_map.2 ⟨l.kinds - 1, List.mem_range.2 (by omega), ?_⟩
      have e1 : l.kinds - 1 + 1 = l.kinds := by omega
      have e2 : n - 1 - (l.kinds - 1) = r.kinds := by omega
      simp only [topQ, e1, e2]
      refine Int.le_antisymm ?_ ?_
      · rw [← he]
        simp only [T.cost, ht]
        have h3 := least_le (L := L) (a := a) h1 (t := l) rfl
        have h4 := least_le (L := L) (a := a + l.kinds) h2 (t := r) rfl
        omega
      · obtain ⟨l', hl, hl'⟩ := least_mem (L := L) (a := a) (n := l.kinds) h1
        obtain ⟨r', hr, hr'⟩ := least_mem (L := L) (a := a + l.kinds) (n := r.kinds) h2
        have := least_le (L := L) (a := a) (n := n) (by omega) (t := .node l' r') (by simp [T.kinds]; omega)
        simp only [T.cost, hl, hr, ht, hl', hr'] at this
        omega
  · intro y hy
    obtain ⟨i, hi, rfl⟩ := List.mem_map.1 hy
    have hi := List.mem_range.1 hi
    obtain ⟨l', hl, hl'⟩ := least_mem (L := L) (a := a) (n := i + 1) (by omega)
    obtain ⟨r', hr, hr'⟩ := least_mem (L := L) (a := a + (i + 1)) (n := n - 1 - i) (by omega)
    have e : i + 1 + (n - 1 - i) = n := by omega
    have := least_le (L := L) (a := a) (n := n) (by omega) (t := .node l' r') (by simp [T.kinds]; omega)
    simp only [T.cost, hl, hr, hl', hr', e] at this
    exact this
theorem filter_flatMap' {α β : Type} (p : β → Bool) (f : α → List β) (l : List α) : (l.flatMap f).filter p = l.flatMap fun x => (f x).filter p := by
  induction l with
  | nil => rfl
  | cons x l ih => simp [List.flatMap_cons, ih]
theorem flatMap_ext {α β : Type} {l : List α} {f g : α → List β} (h : ∀ x ∈ l, f x = g x) : l.flatMap f = l.flatMap g := by
  rw [List.flatMap_def, List.flatMap_def, List.map_congr_left h]
/-- the pairs of two lists as trees -/
def prod (x y : List T) : List T := x.flatMap fun l => y.map fun r => .node l r
theorem prod_filter (x y : List T) (p q : T → Bool) (s : T → Bool) (h : ∀ l ∈ x, ∀ r ∈ y, s (.node l r) = (p l && q r)) : (prod x y).filter s = prod (x.filter p) (y.filter q) := by
  unfold prod
  rw [filter_flatMap']
  induction x with
  | nil => rfl
  | cons l x ih =>
    have ih := ih fun l' hl' => h l' (List.mem_cons_of_mem _ hl')
    simp only [List.flatMap_cons, List.filter_cons]
    rw [ih]
    have e : (y.map fun r => T.node l r).filter s = if p l = true then (y.filter q).map fun r => T.node l r else [] := by
      rw [List.filter_map]
      have : y.filter (s ∘ fun r => T.node l r) = y.filter fun r => p l && q r := List.filter_congr fun r hr => h l (by simp) r hr
      rw [this]
      cases p l <;> simp
    rw [e]
    cases p l <;> simp
theorem bests_step (L : List Int) (a : Nat) {n : Nat} (h : 2 ≤ n) : bests L a n = (List.range (n - 1)).flatMap fun i => if topQ L a n i = least L a n then prod (bests L a (i + 1)) (bests L (a + (i + 1)) (n - 1 - i)) else [] := by
  unfold bests
  rw [all_step h, filter_flatMap']
  refine flatMap_ext fun i hi => ?_
  have hi := List.mem_range.1 hi
  have e : i + 1 + (n - 1 - i) = n := by omega
  have key : ∀ l ∈ all (i + 1), ∀ r ∈ all (n - 1 - i), l.kinds = i + 1 ∧ r.kinds = n - 1 - i ∧ least L a (i + 1) ≤ l.cost L a ∧ least L (a + (i + 1)) (n - 1 - i) ≤ r.cost L (a + (i + 1)) ∧
      (T.node l r).cost L a = l.cost L a + r.cost L (a + (i + 1)) + sumOf L a n := by
    intro l hl r hr
    have h1 := (mem_all (by omega) l).1 hl
    have h2 := (mem_all (by omega) r).1 hr
    refine ⟨h1, h2, least_le (by omega) h1, least_le (by omega) h2, ?_⟩
    simp only [T.cost, h1, h2, e]
  have hmin : least L a n ≤ topQ L a n i := by
    rw [least_step L a h]
    exact minL_le (List.mem_map.2 ⟨i, List.mem_range.2 hi, rfl⟩)
  by_cases hq : topQ L a n i = least L a n
  · rw [if_pos hq]
    refine prod_filter _ _ _ _ _ fun l hl r hr => ?_
    obtain ⟨_, _, h3, h4, h5⟩ := key l hl r hr
    rw [h5, ← hq]
    unfold topQ
    rw [Bool.eq_iff_iff]
    simp only [beq_iff_eq, Bool.and_eq_true]
    omega
  · rw [if_neg hq]
    rw [List.filter_eq_nil_iff]
    intro t ht
    obtain ⟨l, hl, ht⟩ := List.mem_flatMap.1 ht
    obtain ⟨r, hr, rfl⟩ := List.mem_map.1 ht
    obtain ⟨_, _, h3, h4, h5⟩ := key l hl r hr
    unfold topQ at hq hmin
    simp only [h5, beq_iff_eq]
    omega
theorem bests_ne (L : List Int) (a : Nat) {n : Nat} (h : 1 ≤ n) : bests L a n ≠ [] := by
  obtain ⟨t, ht, he⟩ := least_mem (L := L) (a := a) (n := n) h
  intro e
  have : t ∈ bests L a n := List.mem_filter.2 ⟨(mem_all h t).2 ht, by simp [he]⟩
  simp [e] at this
end R5

namespace R5

/-! ### those with the smallest number, one after the other -/
section
variable {α : Type} (c : α → Int)
def argL (l : List α) : List α := l.filter fun x => c x == minL (l.map c)
theorem minL_snoc (l : List Int) (x : Int) : minL (l ++ [x]) = if l = [] ∨ x < minL l then x else minL l := by
  cases l with
  | nil => simp [minL]
  | cons y l =>
    simp only [List.cons_append, minL, List.foldl_append, List.foldl_cons, List.foldl_nil, reduceCtorEq, false_or]
    split <;> omega
theorem argL_snoc (l : List α) (x : α) : argL c (l ++ [x]) = if l = [] ∨ c x < minL (l.map c) then [x] else if c x = minL (l.map c) then argL c l ++ [x] else argL c l := by
  unfold argL
  rw [List.map_append, List.map_singleton, minL_snoc, List.filter_append]
  by_cases h : l = []
  · subst h; simp
  · have hm : l.map c ≠ [] := by simpa using h
    by_cases h2 : c x < minL (l.map c)
    · rw [if_pos (.inr h2), if_pos (.inr h2)]
      have : l.filter (fun y => c y == c x) = [] := by
        rw [List.filter_eq_nil_iff]
        intro y hy
        have := minL_le (List.mem_map.2 ⟨y, hy, rfl⟩ : c y ∈ l.map c)
        simp only [beq_iff_eq]; omega
      simp [this]
    · rw [if_neg (by simp [hm, h2]), if_neg (by simp [h, h2])]
      by_cases h3 : c x = minL (l.map c)
      · rw [if_pos h3]; simp [h3]
      · rw [if_neg h3]; simp [h3]
end

/-! ### what is known of spans -/
def tops (L : List Int) (a n : Nat) : List Nat := argL (topQ L a n) (List.range (n - 1))
def firstT (L : List Int) (a n : Nat) : Nat := (tops L a n).headD 0
theorem tops_ne (L : List Int) (a : Nat) {n : Nat} (h : 2 ≤ n) : tops L a n ≠ [] := by
  intro e
  have hne : (List.range (n - 1)).map (topQ L a n) ≠ [] := by simp; omega
  obtain ⟨i, hi, he⟩ := List.mem_map.1 (minL_mem hne)
  have : i ∈ tops L a n := List.mem_filter.2 ⟨hi, by simp [he]⟩
  simp [e] at this
theorem tops_mem {L : List Int} {a n i : Nat} (hn : 2 ≤ n) (h : i ∈ tops L a n) : i < n - 1 ∧ topQ L a n i = least L a n := by
  obtain ⟨h1, h2⟩ := List.mem_filter.1 h
  exact ⟨List.mem_range.1 h1, by rw [least_step L a hn]; simpa using h2⟩
theorem headD_mem {l : List Nat} (h : l ≠ []) : l.headD 0 ∈ l := by cases l <;> simp_all
theorem firstT_lt {L : List Int} {a n : Nat} (h : 2 ≤ n) : firstT L a n < n - 1 := (tops_mem h (headD_mem (tops_ne L a h))).1
theorem flatMap_if {α β : Type} (p : α → Bool) (f : α → List β) (l : List α) : (l.flatMap fun x => if p x = true then f x else []) = (l.filter p).flatMap f := by
  induction l with
  | nil => rfl
  | cons x l ih => simp only [List.flatMap_cons, List.filter_cons, ih]; cases p x <;> simp
theorem bests_tops (L : List Int) (a : Nat) {n : Nat} (h : 2 ≤ n) : bests L a n = (tops L a n).flatMap fun i => prod (bests L a (i + 1)) (bests L (a + (i + 1)) (n - 1 - i)) := by
  rw [bests_step L a h]
  unfold tops argL
  rw [← least_step L a h, ← flatMap_if]
  refine flatMap_ext fun i _ => ?_
  by_cases h1 : topQ L a n i = least L a n <;> simp [h1]
theorem prod_length (x y : List T) : (prod x y).length = x.length * y.length := by
  unfold prod
  induction x with
  | nil => simp
  | cons l x ih => simp [List.flatMap_cons, ih, Nat.add_mul, Nat.add_comm]
def many (L : List Int) (a n : Nat) : Nat := (bests L a n).length
theorem many_one (L : List Int) (a : Nat) : many L a 1 = 1 := by simp [many, bests_one]
theorem many_pos (L : List Int) (a : Nat) {n : Nat} (h : 1 ≤ n) : 1 ≤ many L a n := by
  have := bests_ne L a h
  unfold many
  cases h' : bests L a n with
  | nil => exact absurd h' this
  | cons _ _ => simp
theorem many_le (L : List Int) (a n : Nat) : many L a n ≤ (all n).length := List.length_filter_le _ _
theorem all_len : ∀ n, n ≤ 8 → (all n).length ≤ 429 := by decide +kernel
theorem many_lt (L : List Int) (a : Nat) {n : Nat} (h : n ≤ 8) : many L a n ≤ 429 := Nat.le_trans (many_le L a n) (all_len n h)
/-- the part of how many, by tops -/
def partM (L : List Int) (a n i : Nat) : Nat := many L a (i + 1) * many L (a + (i + 1)) (n - 1 - i)
theorem many_tops (L : List Int) (a : Nat) {n : Nat} (h : 2 ≤ n) : many L a n = ((tops L a n).map (partM L a n)).sum := by
  unfold many
  rw [bests_tops L a h, List.length_flatMap]
  congr 1
  refine List.map_congr_left fun i _ => prod_length _ _
theorem head_prod (x y : List T) (hx : x ≠ []) (hy : y ≠ []) : (prod x y).head? = some (.node (x.head hx) (y.head hy)) := by
  cases x with
  | nil => simp at hx
  | cons a x => cases y with
    | nil => simp at hy
    | cons b y => simp [prod, List.flatMap_cons]
/-- the first of the best trees -/
def bestT (L : List Int) (a n : Nat) : T := (bests L a n).headD .leaf
theorem bestT_one (L : List Int) (a : Nat) : bestT L a 1 = .leaf := by simp [bestT, bests_one]
theorem bestT_step (L : List Int) (a : Nat) {n : Nat} (h : 2 ≤ n) : bestT L a n = .node (bestT L a (firstT L a n + 1)) (bestT L (a + (firstT L a n + 1)) (n - 1 - firstT L a n)) := by
  have hf := firstT_lt (L := L) (a := a) h
  have e := bests_tops L a h
  have ht := tops_ne L a h
  unfold firstT at hf ⊢
  cases hc : tops L a n with
  | nil => exact absurd hc ht
  | cons i l =>
    rw [hc, List.flatMap_cons] at e
    rw [hc] at hf
    simp only [List.headD_cons] at hf ⊢
    have h1 := bests_ne L a (n := i + 1) (by omega)
    have h2 := bests_ne L (a + (i + 1)) (n := n - 1 - i) (by omega)
    have h3 := head_prod _ _ h1 h2
    unfold bestT
    rw [e, List.headD_eq_head?_getD, List.head?_append, h3]
    simp [List.headD_eq_head?_getD, List.head?_eq_some_head h1, List.head?_eq_some_head h2]
theorem bestT_mem (L : List Int) (a : Nat) {n : Nat} (h : 1 ≤ n) : bestT L a n ∈ bests L a n := by
  have := bests_ne L a h
  unfold bestT
  cases hc : bests L a n with
  | nil => exact absurd hc this
  | cons x l => simp
theorem bests_kinds {L : List Int} {a n : Nat} (h : 1 ≤ n) {t : T} (ht : t ∈ bests L a n) : t.kinds = n := (mem_all h t).1 (List.mem_filter.1 ht).1
theorem enc_head (l r : T) (a : Nat) : (T.node l r).enc a = ((a + l.kinds - 1 : Nat) : Int) :: (l.enc a ++ r.enc (a + l.kinds)) := rfl
theorem bestT_enc (L : List Int) (a : Nat) {n : Nat} (h : 2 ≤ n) : (bestT L a n).enc a = ((a + firstT L a n : Nat) : Int) :: ((bestT L a (firstT L a n + 1)).enc a ++ (bestT L (a + (firstT L a n + 1)) (n - 1 - firstT L a n)).enc (a + (firstT L a n + 1))) := by
  have hk := bests_kinds (by omega) (bestT_mem L a (n := firstT L a n + 1) (by omega))
  rw [bestT_step L a h, enc_head, hk, show a + (firstT L a n + 1) - 1 = a + firstT L a n by omega]
/-! ### bounds -/
def Loads (L : List Int) : Prop := ∀ x ∈ L, 1 ≤ x ∧ x ≤ 100
theorem sum_bd : ∀ (l : List Int), (∀ x ∈ l, 1 ≤ x ∧ x ≤ 100) → l.length ≤ l.sum ∧ l.sum ≤ 100 * l.length
  | [], _ => by simp
  | x :: l, h => by
    have := sum_bd l fun y hy => h y (List.mem_cons_of_mem _ hy)
    have := h x (by simp)
    simp only [List.sum_cons, List.length_cons]; omega
theorem sumOf_bd {L : List Int} (h : Loads L) (a n : Nat) : 0 ≤ sumOf L a n ∧ sumOf L a n ≤ 100 * n := by
  have := sum_bd ((L.drop a).take n) fun x hx => h x (List.mem_of_mem_drop (List.mem_of_mem_take hx))
  have h2 : ((L.drop a).take n).length ≤ n := List.length_take_le _ _
  unfold sumOf; omega
theorem cost_bd {L : List Int} (h : Loads L) (t : T) : ∀ a, 0 ≤ t.cost L a ∧ t.cost L a ≤ 100 * t.kinds * (t.kinds - 1 : Nat) := by
  induction t with
  | leaf => intro a; simp [T.cost, T.kinds]
  | node l r h1 h2 =>
    intro a
    have b1 := h1 a; have b2 := h2 (a + l.kinds)
    have b3 := sumOf_bd h a (l.kinds + r.kinds)
    have p1 := l.kinds_pos; have p2 := r.kinds_pos
    simp only [T.cost, T.kinds]
    obtain ⟨x, hx⟩ : ∃ x, l.kinds = x + 1 := ⟨l.kinds - 1, by omega⟩
    obtain ⟨y, hy⟩ : ∃ y, r.kinds = y + 1 := ⟨r.kinds - 1, by omega⟩
    rw [hx] at b1 b2 b3 ⊢; rw [hy] at b2 b3 ⊢
    refine ⟨by omega, ?_⟩
    have e1 : (100 * ((x + 1 : Nat) : Int) * ((x + 1 - 1 : Nat) : Int)) = 100 * (x * x + x) := by
      simp; rw [Int.mul_assoc, Int.add_mul]; simp
    have e2 : (100 * ((y + 1 : Nat) : Int) * ((y + 1 - 1 : Nat) : Int)) = 100 * (y * y + y) := by
      simp; rw [Int.mul_assoc, Int.add_mul]; simp
    have e3 : (100 * ((x + 1 + (y + 1) : Nat) : Int) * ((x + 1 + (y + 1) - 1 : Nat) : Int)) = 100 * (x * x + x + y * y + y + 2 * (x * y) + 2 * x + 2 * y + 2) := by
      have : ((x + 1 + (y + 1) - 1 : Nat) : Int) = x + y + 1 := by omega
      rw [this, Int.mul_assoc]
      congr 1
      push_cast
      have := Int.mul_comm (y : Int) x
      simp only [Int.add_mul, Int.mul_add, Int.mul_one, Int.one_mul]
      omega
    rw [e1] at b1; rw [e2] at b2; rw [e3]
    have : 0 ≤ (x : Int) * y := Int.mul_nonneg (by omega) (by omega)
    omega
theorem least_bd {L : List Int} (h : Loads L) (a : Nat) {n : Nat} (hn : 1 ≤ n) (h8 : n ≤ 8) : 0 ≤ least L a n ∧ least L a n ≤ 5600 := by
  obtain ⟨t, ht, he⟩ := least_mem (L := L) (a := a) hn
  have := cost_bd h t a
  rw [ht, he] at this
  refine ⟨this.1, Int.le_trans this.2 ?_⟩
  have : ∀ n : Nat, 1 ≤ n → n ≤ 8 → 100 * (n : Int) * ((n - 1 : Nat) : Int) ≤ 5600 := by
    intro n h1 h2
    obtain rfl | rfl | rfl | rfl | rfl | rfl | rfl | rfl : n = 1 ∨ n = 2 ∨ n = 3 ∨ n = 4 ∨ n = 5 ∨ n = 6 ∨ n = 7 ∨ n = 8 := by omega
    all_goals decide
  exact this n hn h8
end R5

namespace R5

/-! ### without order: the first smallest one is taken out -/
end R5

namespace R5

/-! ### numbers of trees -/
def cnt (n : Nat) : Nat := (all n).length
theorem cnt_pos {n : Nat} (h : 1 ≤ n) : 1 ≤ cnt n := by
  have := all_ne h
  unfold cnt
  cases h' : all n with
  | nil => exact absurd h' this
  | cons _ _ => simp
theorem cnt_le {n : Nat} (h : n ≤ 8) : cnt n ≤ 429 := all_len n h
/-- trees with one of the first tops -/
def cntU (n k : Nat) : Nat := ((List.range k).map fun i => cnt (i + 1) * cnt (n - 1 - i)).sum
theorem cntU_zero (n : Nat) : cntU n 0 = 0 := rfl
theorem cntU_succ (n k : Nat) : cntU n (k + 1) = cntU n k + cnt (k + 1) * cnt (n - 1 - k) := by
  unfold cntU; rw [List.range_succ, List.map_append, List.sum_append]; simp
theorem all_prod {n : Nat} (h : 2 ≤ n) : all n = (List.range (n - 1)).flatMap fun i => prod (all (i + 1)) (all (n - 1 - i)) := all_step h
theorem cnt_step {n : Nat} (h : 2 ≤ n) : cnt n = cntU n (n - 1) := by
  unfold cnt cntU
  rw [all_prod h, List.length_flatMap]
  congr 1
  exact List.map_congr_left fun i _ => prod_length _ _
theorem cntU_mono (n : Nat) {j k : Nat} (h : j ≤ k) : cntU n j ≤ cntU n k := by
  induction h with
  | refl => exact Nat.le_refl _
  | step _ ih => rw [cntU_succ]; omega
theorem prod_get {x y : List T} {m : Nat} (hm : m < x.length * y.length) : (prod x y)[m]? = (do let l ← x[m / y.length]?; let r ← y[m % y.length]?; pure (T.node l r)) := by
  induction x generalizing m with
  | nil => simp at hm
  | cons a x ih =>
    have hy : 0 < y.length := by
      rcases Nat.eq_zero_or_pos y.length with h | h
      · simp [h] at hm
      · exact h
    have e : prod (a :: x) y = (y.map fun r => T.node a r) ++ prod x y := by simp [prod, List.flatMap_cons]
    rw [e]
    by_cases h : m < y.length
    · rw [List.getElem?_append_left (by simpa using h), Nat.div_eq_of_lt h, Nat.mod_eq_of_lt h]
      simp [List.getElem?_map, Option.map_eq_bind]; rfl
    · rw [List.getElem?_append_right (by simpa using h), List.length_map]
      have h2 : m = (m - y.length) + y.length := by omega
      rw [ih (by simp only [List.length_cons, Nat.add_mul, Nat.one_mul] at hm; omega)]
      conv => rhs; rw [h2, Nat.add_div_right _ hy, Nat.add_mod_right]
      simp
theorem flatMap_get {α β : Type} (f : α → List β) : ∀ (l : List α) (k : Nat) (x : α) (m : Nat), l[k]? = some x → ((l.take k).map fun y => (f y).length).sum ≤ m → m < ((l.take k).map fun y => (f y).length).sum + (f x).length →
    (l.flatMap f)[m]? = (f x)[m - ((l.take k).map fun y => (f y).length).sum]?
  | [], k, x, m, h, _, _ => by simp at h
  | a :: l, 0, x, m, h, h1, h2 => by
    simp at h; subst h
    simp only [List.take_zero, List.map_nil, List.sum_nil] at h2 ⊢
    rw [List.flatMap_cons, List.getElem?_append_left (by omega)]; simp
  | a :: l, k + 1, x, m, h, h1, h2 => by
    simp only [List.take_succ_cons, List.map_cons, List.sum_cons] at h1 h2 ⊢
    rw [List.flatMap_cons, List.getElem?_append_right (by omega), flatMap_get f l k x (m - (f a).length) (by simpa using h) (by omega) (by omega)]
    congr 1; omega
/-- the tree with a number -/
def nth (n m : Nat) : T := ((all n)[m]?).getD .leaf
theorem nth_one (m : Nat) : nth 1 m = .leaf := by cases m <;> simp [nth, all_one]
theorem nth_step {n m k : Nat} (h : 2 ≤ n) (hk : k < n - 1) (h1 : cntU n k ≤ m) (h2 : m < cntU n (k + 1)) :
    nth n m = .node (nth (k + 1) ((m - cntU n k) / cnt (n - 1 - k))) (nth (n - 1 - k) ((m - cntU n k) % cnt (n - 1 - k))) := by
  have e : ((List.range (n - 1)).take k).map (fun y => (prod (all (y + 1)) (all (n - 1 - y))).length) = (List.range k).map fun i => cnt (i + 1) * cnt (n - 1 - i) := by
    rw [List.take_range, Nat.min_eq_left (by omega)]
    exact List.map_congr_left fun i _ => prod_length _ _
  have hg := flatMap_get (fun i => prod (all (i + 1)) (all (n - 1 - i))) (List.range (n - 1)) k k m (by simp [hk]) (by rw [e]; exact h1) (by rw [e, prod_length]; rw [cntU_succ] at h2; exact h2)
  rw [← all_prod h, e] at hg
  have hs : ((List.range k).map fun i => cnt (i + 1) * cnt (n - 1 - i)).sum = cntU n k := rfl
  rw [hs] at hg
  have hlt : m - cntU n k < (all (k + 1)).length * (all (n - 1 - k)).length := by rw [cntU_succ] at h2; unfold cnt at h2; omega
  rw [prod_get hlt] at hg
  have hy : 0 < (all (n - 1 - k)).length := cnt_pos (n := n - 1 - k) (by omega)
  have d1 : (m - cntU n k) / (all (n - 1 - k)).length < (all (k + 1)).length := Nat.div_lt_of_lt_mul (by rw [Nat.mul_comm]; exact hlt)
  have d2 : (m - cntU n k) % (all (n - 1 - k)).length < (all (n - 1 - k)).length := Nat.mod_lt _ hy
  unfold nth cnt
  rw [hg]
  simp [List.getElem?_eq_getElem d1, List.getElem?_eq_getElem d2]
theorem nth_kinds {n m : Nat} (h : 1 ≤ n) (hm : m < cnt n) : (nth n m).kinds = n := by
  unfold nth
  rw [List.getElem?_eq_getElem hm]
  exact (mem_all h _).1 (List.getElem_mem _)

/-! ### the list of a tree, read -/
/-! ### the sieves that lead to a kind -/
def T.path : T → Nat → Nat → List Int
  | .leaf, _, _ => []
  | .node l r, a, x => ((a + l.kinds - 1 : Nat) : Int) :: if x < a + l.kinds then l.path a x else r.path (a + l.kinds) x
end R5

namespace R5

/-- a part of a tree that is made: its depth, its first kind, and itself -/
structure Nd where
  d : Int
  a : Nat
  t : T
/-- a part is put on the others; the last one stands first -/
def pushM : List Nd → Nd → List Nd
  | e' :: S, e => if e'.d = e.d ∧ 0 < e.d then pushM S ⟨e.d - 1, e'.a, .node e'.t e.t⟩ else e :: e' :: S
  | [], e => [e]
def stackU (l : List Int) : Nat → List Nd
  | 0 => []
  | k + 1 => pushM (stackU l k) ⟨l.getD k 0, k, .leaf⟩
/-- the tree of depths -/
def made (l : List Int) : Option T :=
  match stackU l l.length with
  | [e] => if e.d = 0 then some e.t else none
  | _ => none
end R5
