/-
  Chapter 05 in plain words: trees of kinds, their lists and depths; all trees, in the order of their lists. Conditions: none.
  Chapter 05 in plain words: the best trees by spans, and by trying all. Conditions: none.
  Chapter 05 in plain words: the least questions in any order. Conditions: none.
  Chapter 05 in plain words: how many trees, and the tree with a number; the list of a tree read; the tree of depths. Conditions: none.
  Chapter 05 in plain words: the tree of depths, made from the left. Conditions: none.
-/
set_option linter.unusedVariables false
set_option linter.unusedSimpArgs false
set_option linter.deprecated false
namespace R5

/-- a tree of kinds: a kind alone, or a sieve with what falls through and what stays -/
inductive T where
  | leaf
  | node (l r : T)
  deriving DecidableEq, Repr

def T.kinds : T → Nat
  | .leaf => 1
  | .node l r => l.kinds + r.kinds
/-- the list of a tree whose first kind is a -/
def T.enc : T → Nat → List Int
  | .leaf, _ => []
  | .node l r, a => ((a + l.kinds - 1 : Nat) : Int) :: (l.enc a ++ r.enc (a + l.kinds))
def T.dep : T → List Int
  | .leaf => [0]
  | .node l r => (l.dep ++ r.dep).map (· + 1)
/-- all trees of n kinds -/
def allF : Nat → Nat → List T
  | 0, _ => [.leaf]
  | f + 1, n => if n ≤ 1 then [.leaf] else (List.range (n - 1)).flatMap fun i => (allF f (i + 1)).flatMap fun l => (allF f (n - 1 - i)).map fun r => .node l r
def all (n : Nat) : List T := allF n n

theorem T.kinds_pos (t : T) : 1 ≤ t.kinds := by
  induction t with
  | leaf => simp [T.kinds]
  | node l r h1 h2 => simp only [T.kinds]; omega
theorem allF_eq : ∀ (f g n : Nat), n ≤ f → n ≤ g → allF f n = allF g n := by
  intro f
  induction f with
  | zero => intro g n hf hg; obtain rfl : n = 0 := by omega
            cases g with
            | zero => rfl
            | succ g => simp [allF]
  | succ f ih =>
    intro g n hf hg
    cases g with
    | zero => obtain rfl : n = 0 := by omega
              simp [allF]
    | succ g =>
      simp only [allF]
      split
      · rfl
      · have e : ∀ i, i ∈ List.range (n - 1) → ((allF f (i + 1)).flatMap fun l => (allF f (n - 1 - i)).map fun r => T.node l r) = (allF g (i + 1)).flatMap fun l => (allF g (n - 1 - i)).map fun r => T.node l r := by
          intro i hi
          have := List.mem_range.1 hi
          rw [ih g (i + 1) (by omega) (by omega), ih g (n - 1 - i) (by omega) (by omega)]
        rw [List.flatMap_def, List.flatMap_def, List.map_congr_left e]
theorem all_one : all 1 = [.leaf] := rfl
theorem all_step {n : Nat} (h : 2 ≤ n) : all n = (List.range (n - 1)).flatMap fun i => (all (i + 1)).flatMap fun l => (all (n - 1 - i)).map fun r => .node l r := by
  obtain ⟨m, rfl⟩ : ∃ m, n = m + 1 := ⟨n - 1, by omega⟩
  unfold all
  rw [allF, if_neg (by omega)]
  have e : ∀ i, i ∈ List.range (m + 1 - 1) → ((allF m (i + 1)).flatMap fun l => (allF m (m + 1 - 1 - i)).map fun r => T.node l r) = (allF (i + 1) (i + 1)).flatMap fun l => (allF (m + 1 - 1 - i) (m + 1 - 1 - i)).map fun r => T.node l r := by
    intro i hi
    have := List.mem_range.1 hi
    rw [allF_eq m (i + 1) (i + 1) (by omega) (by omega), allF_eq m (m + 1 - 1 - i) (m + 1 - 1 - i) (by omega) (by omega)]
  rw [List.flatMap_def, List.flatMap_def, List.map_congr_left e]
theorem mem_all {n : Nat} (h : 1 ≤ n) (t : T) : t ∈ all n ↔ t.kinds = n := by
  induction n using Nat.strongRecOn generalizing t with
  | _ n ih =>
    by_cases h1 : n = 1
    · subst h1
      rw [all_one]
      cases t with
      | leaf => simp [T.kinds]
      | node l r =>
        have := l.kinds_pos; have := r.kinds_pos
        simp [T.kinds]; omega
    · rw [all_step (by omega)]
      simp only [List.mem_flatMap, List.mem_range, List.mem_map]
      constructor
      · rintro ⟨i, hi, l, hl, r, hr, rfl⟩
        have h2 := (ih (i + 1) (by omega) (by omega) l).1 hl
        have h3 := (ih (n - 1 - i) (by omega) (by omega) r).1 hr
        simp only [T.kinds]; omega
      · intro ht
        cases t with
        | leaf => simp [T.kinds] at ht; omega
        | node l r =>
          have h2 := l.kinds_pos; have h3 := r.kinds_pos
          simp only [T.kinds] at ht
          exact ⟨l.kinds - 1, by omega, l, (ih _ (by omega) (by omega) l).2 (by omega), r, (ih _ (by omega) (by omega) r).2 (by omega), rfl⟩
theorem T.enc_length (t : T) (a : Nat) : (t.enc a).length = t.kinds - 1 := by
  induction t generalizing a with
  | leaf => rfl
  | node l r h1 h2 =>
    have h3 := l.kinds_pos; have h4 := r.kinds_pos
    simp only [T.enc, T.kinds, List.length_cons, List.length_append, h1, h2]; omega
theorem T.dep_length (t : T) : t.dep.length = t.kinds := by
  induction t with
  | leaf => rfl
  | node l r h1 h2 => simp [T.dep, T.kinds, h1, h2]
theorem T.dep_bd (t : T) : ∀ d ∈ t.dep, 0 ≤ d ∧ d < t.kinds := by
  induction t with
  | leaf => simp [T.dep, T.kinds]
  | node l r h1 h2 =>
    intro d hd
    have h3 := l.kinds_pos; have h4 := r.kinds_pos
    simp only [T.dep, List.mem_map, List.mem_append] at hd
    obtain ⟨e, he, rfl⟩ := hd
    simp only [T.kinds]
    rcases he with he | he
    · have := h1 e he; omega
    · have := h2 e he; omega
/-- a list tells its tree -/
theorem T.enc_inj (t : T) : ∀ (u : T) (a : Nat), t.kinds = u.kinds → t.enc a = u.enc a → t = u := by
  induction t with
  | leaf =>
    intro u a hk he
    cases u with
    | leaf => rfl
    | node l r => simp [T.enc] at he
  | node l r h1 h2 =>
    intro u a hk he
    cases u with
    | leaf => simp [T.enc] at he
    | node l' r' =>
      have h3 := l.kinds_pos; have h4 := l'.kinds_pos
      simp only [T.enc, List.cons.injEq] at he
      have hl : l.kinds = l'.kinds := by omega
      have hl2 : (l.enc a).length = (l'.enc a).length := by rw [T.enc_length, T.enc_length, hl]
      obtain ⟨e1, e2⟩ := List.append_inj he.2 hl2
      rw [hl] at e2
      simp only [T.kinds] at hk
      rw [h1 l' a hl e1, h2 r' (a + l'.kinds) (by omega) e2]

/-! ### loads, and the best trees -/
/-- the loads of n kinds from a on -/
def sumOf (L : List Int) (a n : Nat) : Int := ((L.drop a).take n).sum
/-- the questions of a tree whose first kind is a -/
def T.cost (L : List Int) : T → Nat → Int
  | .leaf, _ => 0
  | .node l r, a => l.cost L a + r.cost L (a + l.kinds) + sumOf L a (l.kinds + r.kinds)
def dot : List Int → List Int → Int
  | x :: xs, y :: ys => x * y + dot xs ys
  | _, _ => 0
theorem dot_append : ∀ (xs xs' ys ys' : List Int), xs.length = ys.length → dot (xs ++ xs') (ys ++ ys') = dot xs ys + dot xs' ys'
  | [], xs', [], ys', _ => by simp [dot]
  | x :: xs, xs', y :: ys, ys', h => by
    simp only [List.cons_append, dot]
    rw [dot_append xs xs' ys ys' (by simpa using h)]; omega
theorem dot_succ : ∀ (xs ys : List Int), xs.length = ys.length → dot xs (ys.map (· + 1)) = dot xs ys + xs.sum
  | [], [], _ => by simp [dot]
  | x :: xs, y :: ys, h => by
    simp only [List.map_cons, dot, List.sum_cons]
    rw [dot_succ xs ys (by simpa using h), Int.mul_add]; omega
theorem take_drop_add {α : Type} (L : List α) (a m n : Nat) : (L.drop a).take (m + n) = (L.drop a).take m ++ (L.drop (a + m)).take n := by
  rw [List.take_add, List.drop_drop]
theorem sumOf_add (L : List Int) (a m n : Nat) : sumOf L a (m + n) = sumOf L a m + sumOf L (a + m) n := by
  unfold sumOf; rw [take_drop_add, List.sum_append]
theorem T.cost_eq (L : List Int) (t : T) : ∀ (a : Nat), a + t.kinds ≤ L.length → t.cost L a = dot ((L.drop a).take t.kinds) t.dep := by
  induction t with
  | leaf =>
    intro a h
    simp only [T.kinds] at h
    cases hd : L.drop a with
    | nil => simp [T.cost, T.dep, dot]
    | cons x l => simp [T.cost, T.dep, T.kinds, dot]
  | node l r h1 h2 =>
    intro a h
    simp only [T.kinds] at h
    simp only [T.cost, T.dep, T.kinds]
    rw [h1 a (by omega), h2 (a + l.kinds) (by omega), dot_succ _ _ (by simp [T.dep_length]; omega), take_drop_add, dot_append _ _ _ _ (by simp [T.dep_length]; omega)]
    unfold sumOf
    rw [take_drop_add]

/-- the smallest of some numbers -/
def minL : List Int → Int
  | [] => 0
  | x :: l => l.foldl min x
theorem foldl_min_le : ∀ (l : List Int) (x : Int), l.foldl min x ≤ x ∧ ∀ y ∈ l, l.foldl min x ≤ y
  | [], x => by simp
  | z :: l, x => by
    obtain ⟨h1, h2⟩ := foldl_min_le l (min x z)
    simp only [List.foldl_cons]
    refine ⟨by omega, fun y hy => ?_⟩
    rcases List.mem_cons.1 hy with rfl | hy
    · omega
    · exact h2 y hy
theorem foldl_min_mem : ∀ (l : List Int) (x : Int), l.foldl min x = x ∨ l.foldl min x ∈ l
  | [], x => by simp
  | z :: l, x => by
    simp only [List.foldl_cons]
    rcases foldl_min_mem l (min x z) with h | h
    · rw [h]
      rcases Int.le_total x z with h' | h'
      · rw [Int.min_eq_left h']; exact .inl rfl
      · rw [Int.min_eq_right h']; exact .inr (by simp)
    · exact .inr (List.mem_cons_of_mem _ h)
theorem minL_le {l : List Int} {y : Int} (h : y ∈ l) : minL l ≤ y := by
  cases l with
  | nil => simp at h
  | cons x l =>
    rcases List.mem_cons.1 h with rfl | h
    · exact (foldl_min_le l y).1
    · exact (foldl_min_le l x).2 y h
theorem minL_mem {l : List Int} (h : l ≠ []) : minL l ∈ l := by
  cases l with
  | nil => simp at h
  | cons x l =>
    rcases foldl_min_mem l x with h | h
    · simp [minL, h]
    · exact List.mem_cons_of_mem _ h
theorem minL_eq {l : List Int} {m : Int} (h : m ∈ l) (hm : ∀ y ∈ l, m ≤ y) : minL l = m := by
  have h1 := minL_le h
  have h2 := hm _ (minL_mem (by intro e; simp [e] at h))
  omega

/-- the least questions of n kinds from a on -/
def least (L : List Int) (a n : Nat) : Int := minL ((all n).map fun t => t.cost L a)
/-- the best trees of n kinds from a on -/
def bests (L : List Int) (a n : Nat) : List T := (all n).filter fun t => t.cost L a == least L a n

theorem all_ne {n : Nat} (h : 1 ≤ n) : all n ≠ [] := by
  have : ∀ n, 1 ≤ n → ∃ t : T, t.kinds = n := by
    intro n h
    induction n with
    | zero => omega
    | succ n ih =>
      cases n with
      | zero => exact ⟨.leaf, rfl⟩
      | succ n => obtain ⟨t, ht⟩ := ih (by omega); exact ⟨.node .leaf t, by simp [T.kinds, ht]; omega⟩
  obtain ⟨t, ht⟩ := this n h
  intro e
  have := (mem_all h t).2 ht
  simp [e] at this
theorem least_le {L : List Int} {a n : Nat} (h : 1 ≤ n) {t : T} (ht : t.kinds = n) : least L a n ≤ t.cost L a :=
  minL_le (List.mem_map.2 ⟨t, (mem_all h t).2 ht, rfl⟩)
theorem least_mem {L : List Int} {a n : Nat} (h : 1 ≤ n) : ∃ t : T, t.kinds = n ∧ t.cost L a = least L a n := by
  have := minL_mem (l := (all n).map fun t => t.cost L a) (by simpa using all_ne h)
  obtain ⟨t, ht, he⟩ := List.mem_map.1 this
  exact ⟨t, (mem_all h t).1 ht, he⟩
theorem least_one (L : List Int) (a : Nat) : least L a 1 = 0 := rfl
theorem bests_one (L : List Int) (a : Nat) : bests L a 1 = [.leaf] := by
  simp [bests, all_one, least_one, T.cost]
/-- the questions if the top is the one with i + 1 kinds that fall through -/
def topQ (L : List Int) (a n i : Nat) : Int := least L a (i + 1) + least L (a + (i + 1)) (n - 1 - i) + sumOf L a n
theorem least_step (L : List Int) (a : Nat) {n : Nat} (h : 2 ≤ n) : least L a n = minL ((List.range (n - 1)).map (topQ L a n)) := by
  refine (minL_eq ?_ ?_).symm
  · obtain ⟨t, ht, he⟩ := least_mem (L := L) (a := a) (n := n) (by omega)
    cases t with
    | leaf => simp [T.kinds] at ht; omega
    | node l r =>
      have h1 := l.kinds_pos; have h2 := r.kinds_pos
      simp only [T.kinds] at ht
      refine List.mem_map.2 ⟨l.kinds - 1, List.mem_range.2 (by omega), ?_⟩
      have e1 : l.kinds - 1 + 1 = l.kinds := by omega
      have e2 : n - 1 - (l.kinds - 1) = r.kinds := by omega
      simp only [topQ, e1, e2]
      refine Int.le_antisymm ?_ ?_
      · rw [← he]
        simp only [T.cost, ht]
        have h3 := least_le (L := L) (a := a) h1 (t := l) rfl
        have h4 := least_le (L := L) (a := a + l.kinds) h2 (t := r) rfl
        omega
      · obtain ⟨l', hl, hl'⟩ := least_mem (L := L) (a := a) (n := l.kinds) h1
        obtain ⟨r', hr, hr'⟩ := least_mem (L := L) (a := a + l.kinds) (n := r.kinds) h2
        have := least_le (L := L) (a := a) (n := n) (by omega) (t := .node l' r') (by simp [T.kinds]; omega)
        simp only [T.cost, hl, hr, ht, hl', hr'] at this
        omega
  · intro y hy
    obtain ⟨i, hi, rfl⟩ := List.mem_map.1 hy
    have hi := List.mem_range.1 hi
    obtain ⟨l', hl, hl'⟩ := least_mem (L := L) (a := a) (n := i + 1) (by omega)
    obtain ⟨r', hr, hr'⟩ := least_mem (L := L) (a := a + (i + 1)) (n := n - 1 - i) (by omega)
    have e : i + 1 + (n - 1 - i) = n := by omega
    have := least_le (L := L) (a := a) (n := n) (by omega) (t := .node l' r') (by simp [T.kinds]; omega)
    simp only [T.cost, hl, hr, hl', hr', e] at this
    exact this
theorem filter_flatMap' {α β : Type} (p : β → Bool) (f : α → List β) (l : List α) : (l.flatMap f).filter p = l.flatMap fun x => (f x).filter p := by
  induction l with
  | nil => rfl
  | cons x l ih => simp [List.flatMap_cons, ih]
theorem flatMap_ext {α β : Type} {l : List α} {f g : α → List β} (h : ∀ x ∈ l, f x = g x) : l.flatMap f = l.flatMap g := by
  rw [List.flatMap_def, List.flatMap_def, List.map_congr_left h]
/-- the pairs of two lists as trees -/
def prod (x y : List T) : List T := x.flatMap fun l => y.map fun r => .node l r
theorem prod_filter (x y : List T) (p q : T → Bool) (s : T → Bool) (h : ∀ l ∈ x, ∀ r ∈ y, s (.node l r) = (p l && q r)) : (prod x y).filter s = prod (x.filter p) (y.filter q) := by
  unfold prod
  rw [filter_flatMap']
  induction x with
  | nil => rfl
  | cons l x ih =>
    have ih := ih fun l' hl' => h l' (List.mem_cons_of_mem _ hl')
    simp only [List.flatMap_cons, List.filter_cons]
    rw [ih]
    have e : (y.map fun r => T.node l r).filter s = if p l = true then (y.filter q).map fun r => T.node l r else [] := by
      rw [List.filter_map]
      have : y.filter (s ∘ fun r => T.node l r) = y.filter fun r => p l && q r := List.filter_congr fun r hr => h l (by simp) r hr
      rw [this]
      cases p l <;> simp
    rw [e]
    cases p l <;> simp
theorem bests_step (L : List Int) (a : Nat) {n : Nat} (h : 2 ≤ n) : bests L a n = (List.range (n - 1)).flatMap fun i => if topQ L a n i = least L a n then prod (bests L a (i + 1)) (bests L (a + (i + 1)) (n - 1 - i)) else [] := by
  unfold bests
  rw [all_step h, filter_flatMap']
  refine flatMap_ext fun i hi => ?_
  have hi := List.mem_range.1 hi
  have e : i + 1 + (n - 1 - i) = n := by omega
  have key : ∀ l ∈ all (i + 1), ∀ r ∈ all (n - 1 - i), l.kinds = i + 1 ∧ r.kinds = n - 1 - i ∧ least L a (i + 1) ≤ l.cost L a ∧ least L (a + (i + 1)) (n - 1 - i) ≤ r.cost L (a + (i + 1)) ∧
      (T.node l r).cost L a = l.cost L a + r.cost L (a + (i + 1)) + sumOf L a n := by
    intro l hl r hr
    have h1 := (mem_all (by omega) l).1 hl
    have h2 := (mem_all (by omega) r).1 hr
    refine ⟨h1, h2, least_le (by omega) h1, least_le (by omega) h2, ?_⟩
    simp only [T.cost, h1, h2, e]
  have hmin : least L a n ≤ topQ L a n i := by
    rw [least_step L a h]
    exact minL_le (List.mem_map.2 ⟨i, List.mem_range.2 hi, rfl⟩)
  by_cases hq : topQ L a n i = least L a n
  · rw [if_pos hq]
    refine prod_filter _ _ _ _ _ fun l hl r hr => ?_
    obtain ⟨_, _, h3, h4, h5⟩ := key l hl r hr
    rw [h5, ← hq]
    unfold topQ
    rw [Bool.eq_iff_iff]
    simp only [beq_iff_eq, Bool.and_eq_true]
    omega
  · rw [if_neg hq]
    rw [List.filter_eq_nil_iff]
    intro t ht
    obtain ⟨l, hl, ht⟩ := List.mem_flatMap.1 ht
    obtain ⟨r, hr, rfl⟩ := List.mem_map.1 ht
    obtain ⟨_, _, h3, h4, h5⟩ := key l hl r hr
    unfold topQ at hq hmin
    simp only [h5, beq_iff_eq]
    omega
theorem bests_ne (L : List Int) (a : Nat) {n : Nat} (h : 1 ≤ n) : bests L a n ≠ [] := by
  obtain ⟨t, ht, he⟩ := least_mem (L := L) (a := a) (n := n) h
  intro e
  have : t ∈ bests L a n := List.mem_filter.2 ⟨(mem_all h t).2 ht, by simp [he]⟩
  simp [e] at this
end R5

namespace R5

/-! ### those with the smallest number, one after the other -/
section
variable {α : Type} (c : α → Int)
def argL (l : List α) : List α := l.filter fun x => c x == minL (l.map c)
theorem minL_snoc (l : List Int) (x : Int) : minL (l ++ [x]) = if l = [] ∨ x < minL l then x else minL l := by
  cases l with
  | nil => simp [minL]
  | cons y l =>
    simp only [List.cons_append, minL, List.foldl_append, List.foldl_cons, List.foldl_nil, reduceCtorEq, false_or]
    split <;> omega
theorem argL_snoc (l : List α) (x : α) : argL c (l ++ [x]) = if l = [] ∨ c x < minL (l.map c) then [x] else if c x = minL (l.map c) then argL c l ++ [x] else argL c l := by
  unfold argL
  rw [List.map_append, List.map_singleton, minL_snoc, List.filter_append]
  by_cases h : l = []
  · subst h; simp
  · have hm : l.map c ≠ [] := by simpa using h
    by_cases h2 : c x < minL (l.map c)
    · rw [if_pos (.inr h2), if_pos (.inr h2)]
      have : l.filter (fun y => c y == c x) = [] := by
        rw [List.filter_eq_nil_iff]
        intro y hy
        have := minL_le (List.mem_map.2 ⟨y, hy, rfl⟩ : c y ∈ l.map c)
        simp only [beq_iff_eq]; omega
      simp [this]
    · rw [if_neg (by simp [hm, h2]), if_neg (by simp [h, h2])]
      by_cases h3 : c x = minL (l.map c)
      · rw [if_pos h3]; simp [h3]
      · rw [if_neg h3]; simp [h3]
end

/-! ### what is known of spans -/
def tops (L : List Int) (a n : Nat) : List Nat := argL (topQ L a n) (List.range (n - 1))
def firstT (L : List Int) (a n : Nat) : Nat := (tops L a n).headD 0
def lastT (L : List Int) (a n : Nat) : Nat := (tops L a n).getLastD 0
theorem tops_ne (L : List Int) (a : Nat) {n : Nat} (h : 2 ≤ n) : tops L a n ≠ [] := by
  intro e
  have hne : (List.range (n - 1)).map (topQ L a n) ≠ [] := by simp; omega
  obtain ⟨i, hi, he⟩ := List.mem_map.1 (minL_mem hne)
  have : i ∈ tops L a n := List.mem_filter.2 ⟨hi, by simp [he]⟩
  simp [e] at this
theorem tops_mem {L : List Int} {a n i : Nat} (hn : 2 ≤ n) (h : i ∈ tops L a n) : i < n - 1 ∧ topQ L a n i = least L a n := by
  obtain ⟨h1, h2⟩ := List.mem_filter.1 h
  exact ⟨List.mem_range.1 h1, by rw [least_step L a hn]; simpa using h2⟩
theorem headD_mem {l : List Nat} (h : l ≠ []) : l.headD 0 ∈ l := by cases l <;> simp_all
theorem getLastD_mem {l : List Nat} (h : l ≠ []) : l.getLastD 0 ∈ l := by
  rw [List.getLastD_eq_getLast?, List.getLast?_eq_some_getLast h]; exact List.getLast_mem h
theorem firstT_lt {L : List Int} {a n : Nat} (h : 2 ≤ n) : firstT L a n < n - 1 := (tops_mem h (headD_mem (tops_ne L a h))).1
theorem lastT_lt {L : List Int} {a n : Nat} (h : 2 ≤ n) : lastT L a n < n - 1 := (tops_mem h (getLastD_mem (tops_ne L a h))).1
theorem flatMap_if {α β : Type} (p : α → Bool) (f : α → List β) (l : List α) : (l.flatMap fun x => if p x = true then f x else []) = (l.filter p).flatMap f := by
  induction l with
  | nil => rfl
  | cons x l ih => simp only [List.flatMap_cons, List.filter_cons, ih]; cases p x <;> simp
theorem bests_tops (L : List Int) (a : Nat) {n : Nat} (h : 2 ≤ n) : bests L a n = (tops L a n).flatMap fun i => prod (bests L a (i + 1)) (bests L (a + (i + 1)) (n - 1 - i)) := by
  rw [bests_step L a h]
  unfold tops argL
  rw [← least_step L a h, ← flatMap_if]
  refine flatMap_ext fun i _ => ?_
  by_cases h1 : topQ L a n i = least L a n <;> simp [h1]
theorem prod_length (x y : List T) : (prod x y).length = x.length * y.length := by
  unfold prod
  induction x with
  | nil => simp
  | cons l x ih => simp [List.flatMap_cons, ih, Nat.add_mul, Nat.add_comm]
def many (L : List Int) (a n : Nat) : Nat := (bests L a n).length
theorem many_one (L : List Int) (a : Nat) : many L a 1 = 1 := by simp [many, bests_one]
theorem many_pos (L : List Int) (a : Nat) {n : Nat} (h : 1 ≤ n) : 1 ≤ many L a n := by
  have := bests_ne L a h
  unfold many
  cases h' : bests L a n with
  | nil => exact absurd h' this
  | cons _ _ => simp
theorem many_le (L : List Int) (a n : Nat) : many L a n ≤ (all n).length := List.length_filter_le _ _
theorem all_len : ∀ n, n ≤ 8 → (all n).length ≤ 429 := by decide +kernel
theorem many_lt (L : List Int) (a : Nat) {n : Nat} (h : n ≤ 8) : many L a n ≤ 429 := Nat.le_trans (many_le L a n) (all_len n h)
/-- the part of how many, by tops -/
def partM (L : List Int) (a n i : Nat) : Nat := many L a (i + 1) * many L (a + (i + 1)) (n - 1 - i)
theorem many_tops (L : List Int) (a : Nat) {n : Nat} (h : 2 ≤ n) : many L a n = ((tops L a n).map (partM L a n)).sum := by
  unfold many
  rw [bests_tops L a h, List.length_flatMap]
  congr 1
  refine List.map_congr_left fun i _ => prod_length _ _
theorem head_prod (x y : List T) (hx : x ≠ []) (hy : y ≠ []) : (prod x y).head? = some (.node (x.head hx) (y.head hy)) := by
  cases x with
  | nil => simp at hx
  | cons a x => cases y with
    | nil => simp at hy
    | cons b y => simp [prod, List.flatMap_cons]
theorem last_prod (x y : List T) (hx : x ≠ []) (hy : y ≠ []) : (prod x y).getLast? = some (.node (x.getLast hx) (y.getLast hy)) := by
  obtain ⟨x', a, rfl⟩ : ∃ x' a, x = x' ++ [a] := ⟨x.dropLast, x.getLast hx, (List.dropLast_concat_getLast hx).symm⟩
  obtain ⟨y', b, rfl⟩ : ∃ y' b, y = y' ++ [b] := ⟨y.dropLast, y.getLast hy, (List.dropLast_concat_getLast hy).symm⟩
  simp [prod, List.flatMap_append, List.flatMap_cons]
/-- the first of the best trees -/
def bestT (L : List Int) (a n : Nat) : T := (bests L a n).headD .leaf
def lastB (L : List Int) (a n : Nat) : T := (bests L a n).getLastD .leaf
theorem bestT_one (L : List Int) (a : Nat) : bestT L a 1 = .leaf := by simp [bestT, bests_one]
theorem prod_ne {x y : List T} (hx : x ≠ []) (hy : y ≠ []) : prod x y ≠ [] := by
  intro e; have := head_prod x y hx hy; simp [e] at this
theorem bestT_step (L : List Int) (a : Nat) {n : Nat} (h : 2 ≤ n) : bestT L a n = .node (bestT L a (firstT L a n + 1)) (bestT L (a + (firstT L a n + 1)) (n - 1 - firstT L a n)) := by
  have hf := firstT_lt (L := L) (a := a) h
  have e := bests_tops L a h
  have ht := tops_ne L a h
  unfold firstT at hf ⊢
  cases hc : tops L a n with
  | nil => exact absurd hc ht
  | cons i l =>
    rw [hc, List.flatMap_cons] at e
    rw [hc] at hf
    simp only [List.headD_cons] at hf ⊢
    have h1 := bests_ne L a (n := i + 1) (by omega)
    have h2 := bests_ne L (a + (i + 1)) (n := n - 1 - i) (by omega)
    have h3 := head_prod _ _ h1 h2
    unfold bestT
    rw [e, List.headD_eq_head?_getD, List.head?_append, h3]
    simp [List.headD_eq_head?_getD, List.head?_eq_some_head h1, List.head?_eq_some_head h2]
theorem lastB_step (L : List Int) (a : Nat) {n : Nat} (h : 2 ≤ n) : lastB L a n = .node (lastB L a (lastT L a n + 1)) (lastB L (a + (lastT L a n + 1)) (n - 1 - lastT L a n)) := by
  have hf := lastT_lt (L := L) (a := a) h
  have e := bests_tops L a h
  have ht := tops_ne L a h
  unfold lastT at hf ⊢
  obtain ⟨l, i, hc⟩ : ∃ l i, tops L a n = l ++ [i] := ⟨_, _, (List.dropLast_concat_getLast ht).symm⟩
  rw [hc, List.flatMap_append, List.flatMap_cons, List.flatMap_nil, List.append_nil] at e
  rw [hc] at hf ⊢
  simp only [List.getLastD_concat] at hf ⊢
  have h1 := bests_ne L a (n := i + 1) (by omega)
  have h2 := bests_ne L (a + (i + 1)) (n := n - 1 - i) (by omega)
  have h3 := last_prod _ _ h1 h2
  unfold lastB
  rw [e, List.getLastD_eq_getLast?, List.getLast?_append, h3]
  simp [List.getLastD_eq_getLast?, List.getLast?_eq_some_getLast h1, List.getLast?_eq_some_getLast h2]
theorem bestT_mem (L : List Int) (a : Nat) {n : Nat} (h : 1 ≤ n) : bestT L a n ∈ bests L a n := by
  have := bests_ne L a h
  unfold bestT
  cases hc : bests L a n with
  | nil => exact absurd hc this
  | cons x l => simp
theorem lastB_mem (L : List Int) (a : Nat) {n : Nat} (h : 1 ≤ n) : lastB L a n ∈ bests L a n := by
  have := bests_ne L a h
  unfold lastB
  rw [List.getLastD_eq_getLast?, List.getLast?_eq_some_getLast this]
  exact List.getLast_mem this
theorem bests_kinds {L : List Int} {a n : Nat} (h : 1 ≤ n) {t : T} (ht : t ∈ bests L a n) : t.kinds = n := (mem_all h t).1 (List.mem_filter.1 ht).1
theorem bests_cost {L : List Int} {a n : Nat} {t : T} (ht : t ∈ bests L a n) : t.cost L a = least L a n := by simpa using (List.mem_filter.1 ht).2
theorem enc_head (l r : T) (a : Nat) : (T.node l r).enc a = ((a + l.kinds - 1 : Nat) : Int) :: (l.enc a ++ r.enc (a + l.kinds)) := rfl
theorem bestT_enc (L : List Int) (a : Nat) {n : Nat} (h : 2 ≤ n) : (bestT L a n).enc a = ((a + firstT L a n : Nat) : Int) :: ((bestT L a (firstT L a n + 1)).enc a ++ (bestT L (a + (firstT L a n + 1)) (n - 1 - firstT L a n)).enc (a + (firstT L a n + 1))) := by
  have hk := bests_kinds (by omega) (bestT_mem L a (n := firstT L a n + 1) (by omega))
  rw [bestT_step L a h, enc_head, hk, show a + (firstT L a n + 1) - 1 = a + firstT L a n by omega]
theorem lastB_top (L : List Int) (a : Nat) {n : Nat} (h : 2 ≤ n) : ((lastB L a n).enc a).head? = some ((a + lastT L a n : Nat) : Int) := by
  have hk := bests_kinds (by omega) (lastB_mem L a (n := lastT L a n + 1) (by omega))
  rw [lastB_step L a h, enc_head, hk, show a + (lastT L a n + 1) - 1 = a + lastT L a n by omega]; rfl

/-! ### bounds -/
def Loads (L : List Int) : Prop := ∀ x ∈ L, 1 ≤ x ∧ x ≤ 100
theorem sum_bd : ∀ (l : List Int), (∀ x ∈ l, 1 ≤ x ∧ x ≤ 100) → l.length ≤ l.sum ∧ l.sum ≤ 100 * l.length
  | [], _ => by simp
  | x :: l, h => by
    have := sum_bd l fun y hy => h y (List.mem_cons_of_mem _ hy)
    have := h x (by simp)
    simp only [List.sum_cons, List.length_cons]; omega
theorem sumOf_bd {L : List Int} (h : Loads L) (a n : Nat) : 0 ≤ sumOf L a n ∧ sumOf L a n ≤ 100 * n := by
  have := sum_bd ((L.drop a).take n) fun x hx => h x (List.mem_of_mem_drop (List.mem_of_mem_take hx))
  have h2 : ((L.drop a).take n).length ≤ n := List.length_take_le _ _
  unfold sumOf; omega
theorem cost_bd {L : List Int} (h : Loads L) (t : T) : ∀ a, 0 ≤ t.cost L a ∧ t.cost L a ≤ 100 * t.kinds * (t.kinds - 1 : Nat) := by
  induction t with
  | leaf => intro a; simp [T.cost, T.kinds]
  | node l r h1 h2 =>
    intro a
    have b1 := h1 a; have b2 := h2 (a + l.kinds)
    have b3 := sumOf_bd h a (l.kinds + r.kinds)
    have p1 := l.kinds_pos; have p2 := r.kinds_pos
    simp only [T.cost, T.kinds]
    obtain ⟨x, hx⟩ : ∃ x, l.kinds = x + 1 := ⟨l.kinds - 1, by omega⟩
    obtain ⟨y, hy⟩ : ∃ y, r.kinds = y + 1 := ⟨r.kinds - 1, by omega⟩
    rw [hx] at b1 b2 b3 ⊢; rw [hy] at b2 b3 ⊢
    refine ⟨by omega, ?_⟩
    have e1 : (100 * ((x + 1 : Nat) : Int) * ((x + 1 - 1 : Nat) : Int)) = 100 * (x * x + x) := by
      simp; rw [Int.mul_assoc, Int.add_mul]; simp
    have e2 : (100 * ((y + 1 : Nat) : Int) * ((y + 1 - 1 : Nat) : Int)) = 100 * (y * y + y) := by
      simp; rw [Int.mul_assoc, Int.add_mul]; simp
    have e3 : (100 * ((x + 1 + (y + 1) : Nat) : Int) * ((x + 1 + (y + 1) - 1 : Nat) : Int)) = 100 * (x * x + x + y * y + y + 2 * (x * y) + 2 * x + 2 * y + 2) := by
      have : ((x + 1 + (y + 1) - 1 : Nat) : Int) = x + y + 1 := by omega
      rw [this, Int.mul_assoc]
      congr 1
      push_cast
      have := Int.mul_comm (y : Int) x
      simp only [Int.add_mul, Int.mul_add, Int.mul_one, Int.one_mul]
      omega
    rw [e1] at b1; rw [e2] at b2; rw [e3]
    have : 0 ≤ (x : Int) * y := Int.mul_nonneg (by omega) (by omega)
    omega
theorem least_bd {L : List Int} (h : Loads L) (a : Nat) {n : Nat} (hn : 1 ≤ n) (h8 : n ≤ 8) : 0 ≤ least L a n ∧ least L a n ≤ 5600 := by
  obtain ⟨t, ht, he⟩ := least_mem (L := L) (a := a) hn
  have := cost_bd h t a
  rw [ht, he] at this
  refine ⟨this.1, Int.le_trans this.2 ?_⟩
  have : ∀ n : Nat, 1 ≤ n → n ≤ 8 → 100 * (n : Int) * ((n - 1 : Nat) : Int) ≤ 5600 := by
    intro n h1 h2
    obtain rfl | rfl | rfl | rfl | rfl | rfl | rfl | rfl : n = 1 ∨ n = 2 ∨ n = 3 ∨ n = 4 ∨ n = 5 ∨ n = 6 ∨ n = 7 ∨ n = 8 := by omega
    all_goals decide
  exact this n hn h8
end R5

namespace R5

/-- a number at its place in a list that rises -/
def ins (x : Int) (l : List Int) : List Int := l.takeWhile (· < x) ++ x :: l.dropWhile (· < x)
/-- the smallest two are put together, again and again: a list that rises -/
def anyF : Nat → List Int → Int
  | f + 1, x :: y :: l => x + y + anyF f (ins (x + y) l)
  | _, _ => 0
def Rises (l : List Int) : Prop := l.Pairwise (· ≤ ·)
theorem ins_perm (x : Int) (l : List Int) : (ins x l).Perm (x :: l) := by
  unfold ins
  refine List.perm_middle.trans ?_
  rw [List.takeWhile_append_dropWhile]
theorem ins_len (x : Int) (l : List Int) : (ins x l).length = l.length + 1 := (ins_perm x l).length_eq
theorem rises_takeWhile {x : Int} : ∀ {l : List Int}, Rises l → (∀ y ∈ l.takeWhile (· < x), y < x) ∧ ∀ y ∈ l.dropWhile (· < x), x ≤ y
  | [], _ => by simp
  | z :: l, h => by
    have h' : Rises l := (List.pairwise_cons.1 h).2
    obtain ⟨h1, h2⟩ := rises_takeWhile (x := x) h'
    by_cases hz : z < x
    · simp only [List.takeWhile_cons, hz, decide_true, if_true, List.dropWhile_cons]
      exact ⟨fun y hy => (List.mem_cons.1 hy).elim (fun e => e ▸ hz) (h1 y), h2⟩
    · simp only [List.takeWhile_cons, hz, decide_false, List.dropWhile_cons, if_false, Bool.false_eq_true]
      refine ⟨by simp, fun y hy => ?_⟩
      rcases List.mem_cons.1 hy with rfl | hy
      · omega
      · have := (List.pairwise_cons.1 h).1 y hy; omega
theorem ins_rises {x : Int} {l : List Int} (h : Rises l) : Rises (ins x l) := by
  obtain ⟨h1, h2⟩ := rises_takeWhile (x := x) h
  unfold ins Rises
  refine List.pairwise_append.2 ⟨List.Pairwise.sublist (List.takeWhile_sublist _) h, List.pairwise_cons.2 ⟨h2, List.Pairwise.sublist (List.dropWhile_sublist _) h⟩, fun a ha b hb => ?_⟩
  have := h1 a ha
  rcases List.mem_cons.1 hb with rfl | hb
  · omega
  · have := h2 b hb; omega
theorem rises_perm {l l' : List Int} (h : Rises l) (h' : Rises l') (hp : l.Perm l') : l = l' :=
  List.Perm.eq_of_pairwise (le := (· ≤ ·)) (fun a b _ _ h1 h2 => Int.le_antisymm h1 h2) h h' hp

/-! ### without order: the first smallest one is taken out -/
/-- the place of the first smallest number -/
def minAtU (l : List Int) : Nat → Nat
  | 0 => 0
  | k + 1 => if l.getD k 0 < l.getD (minAtU l k) 0 then k else minAtU l k
def minAt (l : List Int) : Nat := minAtU l l.length
theorem minAtU_lt (l : List Int) : ∀ k, minAtU l k < max k 1
  | 0 => by simp [minAtU]
  | k + 1 => by
    have := minAtU_lt l k
    simp only [minAtU]; split <;> omega
theorem minAtU_le (l : List Int) : ∀ k i, i < k → l.getD (minAtU l k) 0 ≤ l.getD i 0
  | 0, _, h => by omega
  | k + 1, i, h => by
    simp only [minAtU]
    split
    · rename_i hlt
      by_cases e : i = k
      · subst e; exact Int.le_refl _
      · have := minAtU_le l k i (by omega); omega
    · rename_i hlt
      by_cases e : i = k
      · subst e; omega
      · exact minAtU_le l k i (by omega)
theorem minAt_lt {l : List Int} (h : l ≠ []) : minAt l < l.length := by
  have := minAtU_lt l l.length
  have : 0 < l.length := List.length_pos_iff.2 h
  unfold minAt; omega
theorem getD_mem {l : List Int} {i : Nat} (h : i < l.length) : l.getD i 0 ∈ l := by
  rw [List.getD_eq_getElem?_getD, List.getElem?_eq_getElem h]; exact List.getElem_mem h
theorem minAt_least {l : List Int} {y : Int} (h : y ∈ l) : l.getD (minAt l) 0 ≤ y := by
  obtain ⟨i, hi, rfl⟩ := List.mem_iff_getElem.1 h
  have := minAtU_le l l.length i hi
  rwa [List.getD_eq_getElem?_getD (i := i), List.getElem?_eq_getElem hi] at this
theorem eraseIdx_perm : ∀ {l : List Int} {i : Nat}, i < l.length → l.Perm (l.getD i 0 :: l.eraseIdx i)
  | [], _, h => by simp at h
  | x :: l, 0, _ => by simp
  | x :: l, i + 1, h => by
    have := eraseIdx_perm (l := l) (i := i) (by simpa using h)
    simp only [List.getD_cons_succ, List.eraseIdx_cons_succ]
    exact (this.cons x).trans (List.Perm.swap _ _ _)
/-- the first smallest one, and the others -/
theorem take_min {l s : List Int} {x : Int} (hp : l.Perm (x :: s)) (hr : Rises (x :: s)) : l.getD (minAt l) 0 = x ∧ (l.eraseIdx (minAt l)).Perm s := by
  have hne : l ≠ [] := by rintro rfl; simpa using hp.length_eq
  have hlt := minAt_lt hne
  have h1 := eraseIdx_perm hlt
  have h2 : l.getD (minAt l) 0 = x := by
    have a := minAt_least (l := l) (y := x) (hp.mem_iff.2 (by simp))
    have b := hp.mem_iff.1 (getD_mem hlt)
    rcases List.mem_cons.1 b with b | b
    · exact b
    · have := (List.pairwise_cons.1 hr).1 _ b; omega
  refine ⟨h2, ?_⟩
  rw [h2] at h1
  exact (List.perm_cons x).1 (h1.symm.trans hp)
def refStep (l : List Int) : Int × List Int :=
  let m := l.getD (minAt l) 0
  let l' := l.eraseIdx (minAt l)
  (m + l'.getD (minAt l') 0, l'.eraseIdx (minAt l') ++ [m + l'.getD (minAt l') 0])
def refAny : Nat → List Int → Int
  | f + 1, l => if l.length ≤ 1 then 0 else (refStep l).1 + refAny f (refStep l).2
  | 0, _ => 0
theorem refStep_len {l : List Int} (h : 2 ≤ l.length) : (refStep l).2.length = l.length - 1 := by
  have h1 := minAt_lt (l := l) (by rintro rfl; simp at h)
  have e1 : (l.eraseIdx (minAt l)).length = l.length - 1 := List.length_eraseIdx_of_lt h1
  have h2 := minAt_lt (l := l.eraseIdx (minAt l)) (by intro e; rw [e] at e1; simp at e1; omega)
  simp only [refStep, List.length_append, List.length_singleton, List.length_eraseIdx_of_lt h2, e1]; omega
theorem refStep_eq {l s : List Int} {x y : Int} (hp : l.Perm (x :: y :: s)) (hr : Rises (x :: y :: s)) : (refStep l).1 = x + y ∧ (refStep l).2.Perm (ins (x + y) s) := by
  obtain ⟨h1, h2⟩ := take_min hp hr
  obtain ⟨h3, h4⟩ := take_min h2 (List.pairwise_cons.1 hr).2
  simp only [refStep, h1, h3]
  refine ⟨trivial, ?_⟩
  refine (List.perm_append_comm).trans ?_
  exact (h4.cons _).trans (ins_perm _ _).symm
theorem refAny_eq : ∀ (f : Nat) (l s : List Int), l.Perm s → Rises s → refAny f l = anyF f s
  | 0, _, s, _, _ => by cases s <;> rfl
  | f + 1, l, s, hp, hr => by
    have hl := hp.length_eq
    match s, hp, hr, hl with
    | [], _, _, hl => simp [refAny, anyF, hl]
    | [x], _, _, hl => simp [refAny, anyF, hl]
    | x :: y :: s, hp, hr, hl =>
      obtain ⟨h1, h2⟩ := refStep_eq hp hr
      simp only [refAny, anyF]
      rw [if_neg (by simp at hl; omega), h1, refAny_eq f _ _ h2 (ins_rises (List.pairwise_cons.1 (List.pairwise_cons.1 hr).2).2)]
/-- a list in ascending order -/
def insS (x : Int) : List Int → List Int
  | [] => [x]
  | y :: l => if x ≤ y then x :: y :: l else y :: insS x l
def sortI : List Int → List Int
  | [] => []
  | x :: l => insS x (sortI l)
theorem insS_perm (x : Int) : ∀ (l : List Int), (insS x l).Perm (x :: l)
  | [] => List.Perm.refl _
  | y :: l => by
    simp only [insS]
    split
    · exact List.Perm.refl _
    · exact ((insS_perm x l).cons y).trans (List.Perm.swap _ _ _)
theorem insS_rises {x : Int} : ∀ {l : List Int}, Rises l → Rises (insS x l)
  | [], _ => by simp [insS, Rises]
  | y :: l, h => by
    simp only [insS]
    split
    · rename_i hxy
      refine List.pairwise_cons.2 ⟨fun z hz => ?_, h⟩
      rcases List.mem_cons.1 hz with rfl | hz
      · exact hxy
      · have := (List.pairwise_cons.1 h).1 z hz; omega
    · rename_i hxy
      refine List.pairwise_cons.2 ⟨fun z hz => ?_, insS_rises (List.pairwise_cons.1 h).2⟩
      rcases List.mem_cons.1 ((insS_perm x l).mem_iff.1 hz) with rfl | hz
      · omega
      · exact (List.pairwise_cons.1 h).1 z hz
theorem sortI_perm : ∀ (l : List Int), (sortI l).Perm l
  | [] => List.Perm.refl _
  | x :: l => (insS_perm x _).trans ((sortI_perm l).cons x)
theorem sortI_rises : ∀ (l : List Int), Rises (sortI l)
  | [] => List.Pairwise.nil
  | x :: l => insS_rises (sortI_rises l)
def anyM (L : List Int) : Int := anyF L.length (sortI L)
theorem anyM_ref (L : List Int) : refAny L.length L = anyM L := refAny_eq _ _ _ (sortI_perm L).symm (sortI_rises L)
theorem sum_perm {a b : List Int} (h : a.Perm b) : a.sum = b.sum := by
  induction h with
  | nil => rfl
  | cons x _ ih => simp [ih]
  | swap x y l => simp only [List.sum_cons]; omega
  | trans _ _ h1 h2 => exact h1.trans h2
theorem anyF_bd : ∀ (f : Nat) (l : List Int), (∀ x ∈ l, 0 ≤ x) → 0 ≤ anyF f l ∧ anyF f l ≤ f * l.sum
  | 0, l, h => by
    have : ∀ (l : List Int), (∀ x ∈ l, 0 ≤ x) → 0 ≤ l.sum := fun l h => by induction l with
      | nil => simp
      | cons x l ih => have := ih fun y hy => h y (List.mem_cons_of_mem _ hy); have := h x (by simp); simp; omega
    cases l <;> simp [anyF]
  | f + 1, [], h => by simp [anyF]
  | f + 1, [x], h => by
    have := h x (by simp)
    simp only [anyF, List.sum_cons, List.sum_nil, Int.add_zero]
    exact ⟨by omega, Int.mul_nonneg (by omega) this⟩
  | f + 1, x :: y :: l, h => by
    have hx := h x (by simp); have hy := h y (by simp)
    have hp := ins_perm (x + y) l
    have h' : ∀ z ∈ ins (x + y) l, 0 ≤ z := fun z hz => by
      rcases List.mem_cons.1 (hp.mem_iff.1 hz) with rfl | hz
      · omega
      · exact h z (by simp [hz])
    obtain ⟨h1, h2⟩ := anyF_bd f _ h'
    have e : (ins (x + y) l).sum = x + y + l.sum := by rw [sum_perm hp]; simp
    have hl : 0 ≤ l.sum := by
      clear h1 h2 h' hp e
      have : ∀ (l : List Int), (∀ x ∈ l, 0 ≤ x) → 0 ≤ l.sum := fun l h => by induction l with
        | nil => simp
        | cons x l ih => have := ih fun y hy => h y (List.mem_cons_of_mem _ hy); have := h x (by simp); simp; omega
      exact this l fun z hz => h z (by simp [hz])
    rw [e] at h2
    simp only [anyF, List.sum_cons]
    refine ⟨by omega, ?_⟩
    push_cast
    rw [Int.add_mul, ← Int.add_assoc x y]
    omega
end R5

namespace R5

/-! ### numbers of trees -/
def cnt (n : Nat) : Nat := (all n).length
theorem cnt_one : cnt 1 = 1 := rfl
theorem cnt_pos {n : Nat} (h : 1 ≤ n) : 1 ≤ cnt n := by
  have := all_ne h
  unfold cnt
  cases h' : all n with
  | nil => exact absurd h' this
  | cons _ _ => simp
theorem cnt_le {n : Nat} (h : n ≤ 8) : cnt n ≤ 429 := all_len n h
/-- trees with one of the first tops -/
def cntU (n k : Nat) : Nat := ((List.range k).map fun i => cnt (i + 1) * cnt (n - 1 - i)).sum
theorem cntU_zero (n : Nat) : cntU n 0 = 0 := rfl
theorem cntU_succ (n k : Nat) : cntU n (k + 1) = cntU n k + cnt (k + 1) * cnt (n - 1 - k) := by
  unfold cntU; rw [List.range_succ, List.map_append, List.sum_append]; simp
theorem all_prod {n : Nat} (h : 2 ≤ n) : all n = (List.range (n - 1)).flatMap fun i => prod (all (i + 1)) (all (n - 1 - i)) := all_step h
theorem cnt_step {n : Nat} (h : 2 ≤ n) : cnt n = cntU n (n - 1) := by
  unfold cnt cntU
  rw [all_prod h, List.length_flatMap]
  congr 1
  exact List.map_congr_left fun i _ => prod_length _ _
theorem cntU_mono (n : Nat) {j k : Nat} (h : j ≤ k) : cntU n j ≤ cntU n k := by
  induction h with
  | refl => exact Nat.le_refl _
  | step _ ih => rw [cntU_succ]; omega
theorem prod_get {x y : List T} {m : Nat} (hm : m < x.length * y.length) : (prod x y)[m]? = (do let l ← x[m / y.length]?; let r ← y[m % y.length]?; pure (T.node l r)) := by
  induction x generalizing m with
  | nil => simp at hm
  | cons a x ih =>
    have hy : 0 < y.length := by
      rcases Nat.eq_zero_or_pos y.length with h | h
      · simp [h] at hm
      · exact h
    have e : prod (a :: x) y = (y.map fun r => T.node a r) ++ prod x y := by simp [prod, List.flatMap_cons]
    rw [e]
    by_cases h : m < y.length
    · rw [List.getElem?_append_left (by simpa using h), Nat.div_eq_of_lt h, Nat.mod_eq_of_lt h]
      simp [List.getElem?_map, Option.map_eq_bind]; rfl
    · rw [List.getElem?_append_right (by simpa using h), List.length_map]
      have h2 : m = (m - y.length) + y.length := by omega
      rw [ih (by simp only [List.length_cons, Nat.add_mul, Nat.one_mul] at hm; omega)]
      conv => rhs; rw [h2, Nat.add_div_right _ hy, Nat.add_mod_right]
      simp
theorem flatMap_get {α β : Type} (f : α → List β) : ∀ (l : List α) (k : Nat) (x : α) (m : Nat), l[k]? = some x → ((l.take k).map fun y => (f y).length).sum ≤ m → m < ((l.take k).map fun y => (f y).length).sum + (f x).length →
    (l.flatMap f)[m]? = (f x)[m - ((l.take k).map fun y => (f y).length).sum]?
  | [], k, x, m, h, _, _ => by simp at h
  | a :: l, 0, x, m, h, h1, h2 => by
    simp at h; subst h
    simp only [List.take_zero, List.map_nil, List.sum_nil] at h2 ⊢
    rw [List.flatMap_cons, List.getElem?_append_left (by omega)]; simp
  | a :: l, k + 1, x, m, h, h1, h2 => by
    simp only [List.take_succ_cons, List.map_cons, List.sum_cons] at h1 h2 ⊢
    rw [List.flatMap_cons, List.getElem?_append_right (by omega), flatMap_get f l k x (m - (f a).length) (by simpa using h) (by omega) (by omega)]
    congr 1; omega
/-- the tree with a number -/
def nth (n m : Nat) : T := ((all n)[m]?).getD .leaf
theorem nth_one (m : Nat) : nth 1 m = .leaf := by cases m <;> simp [nth, all_one]
theorem nth_step {n m k : Nat} (h : 2 ≤ n) (hk : k < n - 1) (h1 : cntU n k ≤ m) (h2 : m < cntU n (k + 1)) :
    nth n m = .node (nth (k + 1) ((m - cntU n k) / cnt (n - 1 - k))) (nth (n - 1 - k) ((m - cntU n k) % cnt (n - 1 - k))) := by
  have e : ((List.range (n - 1)).take k).map (fun y => (prod (all (y + 1)) (all (n - 1 - y))).length) = (List.range k).map fun i => cnt (i + 1) * cnt (n - 1 - i) := by
    rw [List.take_range, Nat.min_eq_left (by omega)]
    exact List.map_congr_left fun i _ => prod_length _ _
  have hg := flatMap_get (fun i => prod (all (i + 1)) (all (n - 1 - i))) (List.range (n - 1)) k k m (by simp [hk]) (by rw [e]; exact h1) (by rw [e, prod_length]; rw [cntU_succ] at h2; exact h2)
  rw [← all_prod h, e] at hg
  have hs : ((List.range k).map fun i => cnt (i + 1) * cnt (n - 1 - i)).sum = cntU n k := rfl
  rw [hs] at hg
  have hlt : m - cntU n k < (all (k + 1)).length * (all (n - 1 - k)).length := by rw [cntU_succ] at h2; unfold cnt at h2; omega
  rw [prod_get hlt] at hg
  have hy : 0 < (all (n - 1 - k)).length := cnt_pos (n := n - 1 - k) (by omega)
  have d1 : (m - cntU n k) / (all (n - 1 - k)).length < (all (k + 1)).length := Nat.div_lt_of_lt_mul (by rw [Nat.mul_comm]; exact hlt)
  have d2 : (m - cntU n k) % (all (n - 1 - k)).length < (all (n - 1 - k)).length := Nat.mod_lt _ hy
  unfold nth cnt
  rw [hg]
  simp [List.getElem?_eq_getElem d1, List.getElem?_eq_getElem d2]
theorem nth_kinds {n m : Nat} (h : 1 ≤ n) (hm : m < cnt n) : (nth n m).kinds = n := by
  unfold nth
  rw [List.getElem?_eq_getElem hm]
  exact (mem_all h _).1 (List.getElem_mem _)

/-! ### the list of a tree, read -/
/-- reads the list of a tree of n kinds, the first of which is a: the tree and what is behind its list -/
def parseF : Nat → Nat → Nat → List Int → Option (T × List Int)
  | 0, _, _, l => some (.leaf, l)
  | f + 1, n, a, l => if n ≤ 1 then some (.leaf, l) else
    match l with
    | [] => none
    | k :: l => if (a : Int) ≤ k ∧ k < (a : Int) + n - 1 then
        match parseF f ((k - a).toNat + 1) a l with
        | none => none
        | some (x, l') => match parseF f (n - 1 - (k - a).toNat) (a + ((k - a).toNat + 1)) l' with
          | none => none
          | some (y, l'') => some (.node x y, l'')
      else none
def parse (n a : Nat) (l : List Int) : Option (T × List Int) := parseF n n a l
theorem parseF_eq : ∀ (f g n a : Nat) (l : List Int), n ≤ f → n ≤ g → parseF f n a l = parseF g n a l := by
  intro f
  induction f with
  | zero => intro g n a l hf _; obtain rfl : n = 0 := by omega
            cases g <;> simp [parseF]
  | succ f ih =>
    intro g n a l hf hg
    cases g with
    | zero => obtain rfl : n = 0 := by omega
              simp [parseF]
    | succ g =>
      simp only [parseF]
      split
      · rfl
      · cases l with
        | nil => rfl
        | cons k l =>
          simp only
          split
          · rename_i hk
            rw [ih g ((k - a).toNat + 1) a l (by omega) (by omega)]
            cases parseF g ((k - a).toNat + 1) a l with
            | none => rfl
            | some r => simp only; rw [ih g (n - 1 - (k - a).toNat) _ r.2 (by omega) (by omega)]
          · rfl
theorem parse_one (a : Nat) (l : List Int) : parse 1 a l = some (.leaf, l) := by simp [parse, parseF]
theorem parse_nil {n : Nat} (a : Nat) (h : 2 ≤ n) : parse n a [] = none := by
  obtain ⟨m, rfl⟩ : ∃ m, n = m + 1 := ⟨n - 1, by omega⟩
  simp only [parse, parseF]; rw [if_neg (by omega)]
theorem parse_out {n a : Nat} {k : Int} {l : List Int} (h : 2 ≤ n) (hk : ¬ ((a : Int) ≤ k ∧ k < (a : Int) + n - 1)) : parse n a (k :: l) = none := by
  obtain ⟨m, rfl⟩ : ∃ m, n = m + 1 := ⟨n - 1, by omega⟩
  simp only [parse, parseF]; rw [if_neg (by omega), if_neg hk]
theorem parse_step {n a i : Nat} {l : List Int} (h : 2 ≤ n) (hi : i < n - 1) : parse n a (((a + i : Nat) : Int) :: l) = (match parse (i + 1) a l with
    | none => none
    | some (x, l') => match parse (n - 1 - i) (a + (i + 1)) l' with
      | none => none
      | some (y, l'') => some (.node x y, l'')) := by
  obtain ⟨m, rfl⟩ : ∃ m, n = m + 1 := ⟨n - 1, by omega⟩
  have e : (((a + i : Nat) : Int) - a).toNat = i := by omega
  unfold parse
  rw [parseF, if_neg (by omega)]
  simp only [e]
  rw [if_pos (by omega), parseF_eq m (i + 1) (i + 1) a l (by omega) (by omega)]
  cases parseF (i + 1) (i + 1) a l with
  | none => rfl
  | some r => simp only; rw [parseF_eq m (m + 1 - 1 - i) (m + 1 - 1 - i) _ r.2 (by omega) (by omega)]
theorem parse_enc (t : T) : ∀ (a : Nat) (l : List Int), parse t.kinds a (t.enc a ++ l) = some (t, l) := by
  induction t with
  | leaf => intro a l; simp [T.kinds, T.enc, parse_one]
  | node x y h1 h2 =>
    intro a l
    have p1 := x.kinds_pos; have p2 := y.kinds_pos
    simp only [T.kinds, T.enc, List.cons_append]
    rw [show a + x.kinds - 1 = a + (x.kinds - 1) by omega, parse_step (by omega) (by omega), show x.kinds - 1 + 1 = x.kinds by omega, List.append_assoc, h1 a]
    simp only
    rw [show x.kinds + y.kinds - 1 - (x.kinds - 1) = y.kinds by omega, h2]
theorem parse_some : ∀ (n a : Nat) (l : List Int) (t : T) (l' : List Int), 1 ≤ n → parse n a l = some (t, l') → t.kinds = n ∧ l = t.enc a ++ l' := by
  intro n
  induction n using Nat.strongRecOn with
  | _ n ih =>
    intro a l t l' hn h
    by_cases h1 : n = 1
    · subst h1
      rw [parse_one] at h
      simp only [Option.some.injEq, Prod.mk.injEq] at h
      obtain ⟨rfl, rfl⟩ := h
      simp [T.kinds, T.enc]
    · cases l with
      | nil => rw [parse_nil a (by omega)] at h; cases h
      | cons k l =>
        by_cases hk : (a : Int) ≤ k ∧ k < (a : Int) + n - 1
        · obtain ⟨i, rfl⟩ : ∃ i : Nat, k = ((a + i : Nat) : Int) := ⟨(k - a).toNat, by omega⟩
          rw [parse_step (by omega) (by omega)] at h
          split at h
          · cases h
          · rename_i x l1 hx
            split at h
            · cases h
            · rename_i y l2 hy
              simp only [Option.some.injEq, Prod.mk.injEq] at h
              obtain ⟨rfl, rfl⟩ := h
              obtain ⟨k1, e1⟩ := ih (i + 1) (by omega) a l x l1 (by omega) hx
              obtain ⟨k2, e2⟩ := ih (n - 1 - i) (by omega) _ l1 y l2 (by omega) hy
              simp only [T.kinds, T.enc, k1, k2]
              refine ⟨by omega, ?_⟩
              rw [e1, e2, List.cons_append, List.append_assoc, show a + (i + 1) - 1 = a + i by omega]
        · rw [parse_out (by omega) hk] at h; cases h
/-- the list is that of a tree of n kinds -/
def validB (n : Nat) (l : List Int) : Bool := (all n).any fun t => t.enc 0 == l
def treeOf (n : Nat) (l : List Int) : T := ((all n).find? fun t => t.enc 0 == l).getD .leaf
theorem valid_iff {n : Nat} (h : 1 ≤ n) (l : List Int) : validB n l = true ↔ ∃ t : T, t.kinds = n ∧ t.enc 0 = l := by
  unfold validB
  rw [List.any_eq_true]
  constructor
  · rintro ⟨t, ht, he⟩; exact ⟨t, (mem_all h t).1 ht, by simpa using he⟩
  · rintro ⟨t, ht, he⟩; exact ⟨t, (mem_all h t).2 ht, by simpa using he⟩
theorem valid_parse {n : Nat} (h : 1 ≤ n) (l : List Int) : validB n l = true ↔ ∃ t, parse n 0 l = some (t, []) := by
  rw [valid_iff h]
  constructor
  · rintro ⟨t, rfl, rfl⟩; exact ⟨t, by simpa using parse_enc t 0 []⟩
  · rintro ⟨t, ht⟩
    obtain ⟨h1, h2⟩ := parse_some n 0 l t [] h ht
    exact ⟨t, h1, by simpa using h2.symm⟩
theorem treeOf_enc {t : T} : treeOf t.kinds (t.enc 0) = t := by
  unfold treeOf
  cases hf : (all t.kinds).find? fun u => u.enc 0 == t.enc 0 with
  | none => rw [List.find?_eq_none] at hf; have := hf t ((mem_all t.kinds_pos t).2 rfl); simp at this
  | some u =>
    have h1 := List.find?_some hf
    have h2 := (mem_all t.kinds_pos u).1 (List.mem_of_find?_eq_some hf)
    simp only [beq_iff_eq] at h1
    exact T.enc_inj u t 0 h2 h1

/-! ### the sieves that lead to a kind -/
def T.path : T → Nat → Nat → List Int
  | .leaf, _, _ => []
  | .node l r, a, x => ((a + l.kinds - 1 : Nat) : Int) :: if x < a + l.kinds then l.path a x else r.path (a + l.kinds) x
theorem T.path_len (t : T) : ∀ (a x : Nat), a ≤ x → x < a + t.kinds → ((t.path a x).length : Int) = t.dep.getD (x - a) 0 := by
  induction t with
  | leaf => intro a x h1 h2; simp [T.kinds] at h2; obtain rfl : x = a := by omega
            simp [T.path, T.dep]
  | node l r h1 h2 =>
    intro a x hx1 hx2
    simp only [T.kinds] at hx2
    simp only [T.path, T.dep, List.length_cons]
    have hl := l.dep_length; have hr := r.dep_length
    by_cases h : x < a + l.kinds
    · rw [if_pos h]
      have := h1 a x hx1 h
      rw [List.getD_eq_getElem?_getD, List.getElem?_map, List.getElem?_append_left (by omega)]
      rw [List.getD_eq_getElem?_getD, List.getElem?_eq_getElem (by omega)] at this
      rw [List.getElem?_eq_getElem (by omega)]
      simp only [Option.map_some, Option.getD_some] at this ⊢
      omega
    · rw [if_neg h]
      have := h2 (a + l.kinds) x (by omega) (by omega)
      rw [List.getD_eq_getElem?_getD, List.getElem?_map, List.getElem?_append_right (by omega)]
      rw [List.getD_eq_getElem?_getD, List.getElem?_eq_getElem (by omega)] at this
      have e : x - a - l.dep.length = x - (a + l.kinds) := by omega
      rw [e, List.getElem?_eq_getElem (by omega)]
      simp only [Option.map_some, Option.getD_some] at this ⊢
      omega
end R5

namespace R5

/-- a part of a tree that is made: its depth, its first kind, and itself -/
structure Nd where
  d : Int
  a : Nat
  t : T
/-- a part is put on the others; the last one stands first -/
def pushM : List Nd → Nd → List Nd
  | e' :: S, e => if e'.d = e.d ∧ 0 < e.d then pushM S ⟨e.d - 1, e'.a, .node e'.t e.t⟩ else e :: e' :: S
  | [], e => [e]
def stackU (l : List Int) : Nat → List Nd
  | 0 => []
  | k + 1 => pushM (stackU l k) ⟨l.getD k 0, k, .leaf⟩
def flatS : List Nd → List Int
  | [] => []
  | e :: S => flatS S ++ e.t.dep.map (· + e.d)
theorem flat_push : ∀ (S : List Nd) (e : Nd), flatS (pushM S e) = flatS S ++ e.t.dep.map (· + e.d)
  | [], e => rfl
  | e' :: S, e => by
    simp only [pushM]
    split
    · rename_i h
      rw [flat_push S]
      simp only [flatS, T.dep, List.map_append, List.map_map, List.append_assoc, h.1]
      congr 1
      congr 1 <;> exact List.map_congr_left fun x _ => by simp only [Function.comp]; omega
    · rfl
theorem flat_stack (l : List Int) : ∀ k, k ≤ l.length → flatS (stackU l k) = l.take k
  | 0, _ => rfl
  | k + 1, h => by
    simp only [stackU]
    rw [flat_push, flat_stack l k (by omega)]
    simp only [T.dep, List.map_cons, List.map_nil, Int.zero_add]
    rw [List.take_succ_eq_append_getElem (by omega), List.getD_eq_getElem?_getD, List.getElem?_eq_getElem (by omega)]; rfl
/-- parts stand one behind the other, up to a kind -/
def Contig : List Nd → Nat → Prop
  | [], k => k = 0
  | e :: S, k => e.a + e.t.kinds = k ∧ Contig S e.a
theorem contig_push : ∀ (S : List Nd) (e : Nd) (k : Nat), Contig S e.a → e.a + e.t.kinds = k → Contig (pushM S e) k
  | [], e, k, h, hk => ⟨hk, h⟩
  | e' :: S, e, k, h, hk => by
    simp only [pushM]
    split
    · refine contig_push S _ k h.2 ?_
      have := h.1
      simp only [T.kinds]; omega
    · exact ⟨hk, h⟩
theorem contig_stack (l : List Int) : ∀ k, Contig (stackU l k) k
  | 0 => rfl
  | k + 1 => contig_push _ _ _ (contig_stack l k) (by simp [T.kinds])
theorem push_len : ∀ (S : List Nd) (e : Nd), (pushM S e).length ≤ S.length + 1
  | [], e => by simp [pushM]
  | e' :: S, e => by
    simp only [pushM]
    split
    · have := push_len S ⟨e.d - 1, e'.a, .node e'.t e.t⟩; simp only [List.length_cons]; omega
    · simp
theorem stack_len (l : List Int) : ∀ k, (stackU l k).length ≤ k
  | 0 => by simp [stackU]
  | k + 1 => by simp only [stackU]; have := push_len (stackU l k) ⟨l.getD k 0, k, .leaf⟩; have := stack_len l k; omega
/-- the tree of depths -/
def made (l : List Int) : Option T :=
  match stackU l l.length with
  | [e] => if e.d = 0 then some e.t else none
  | _ => none
theorem made_dep {l : List Int} {t : T} (h : made l = some t) : t.dep = l := by
  unfold made at h
  split at h
  · rename_i e he
    split at h
    · rename_i h0
      simp only [Option.some.injEq] at h; subst h
      have := flat_stack l l.length (Nat.le_refl _)
      rw [he, List.take_length] at this
      simpa [flatS, h0] using this
    · cases h
  · cases h
/-- depths, one after the other, put on a stack -/
def pushAll (S : List Nd) : Nat → List Int → List Nd
  | _, [] => S
  | k, d :: l => pushAll (pushM S ⟨d, k, .leaf⟩) (k + 1) l
theorem pushAll_append (S : List Nd) (k : Nat) (l l' : List Int) : pushAll S k (l ++ l') = pushAll (pushAll S k l) (k + l.length) l' := by
  induction l generalizing S k with
  | nil => simp [pushAll]
  | cons d l ih => simp only [List.cons_append, pushAll, ih, List.length_cons]; congr 1; omega
theorem stack_all (l : List Int) : ∀ k, k ≤ l.length → stackU l k = pushAll [] 0 (l.take k)
  | 0, _ => by simp [stackU, pushAll]
  | k + 1, h => by
    rw [List.take_succ_eq_append_getElem (by omega), pushAll_append, ← stack_all l k (by omega)]
    simp only [stackU, pushAll, List.length_take, Nat.zero_add]
    rw [Nat.min_eq_left (by omega), List.getD_eq_getElem?_getD, List.getElem?_eq_getElem (by omega)]; rfl
theorem push_tree (t : T) : ∀ (S : List Nd) (d : Int) (a : Nat), 0 ≤ d → (∀ e, S.head? = some e → e.d ≤ d) → pushAll S a (t.dep.map (· + d)) = pushM S ⟨d, a, t⟩ := by
  induction t with
  | leaf => intro S d a h0 hS; simp [T.dep, pushAll]
  | node l r h1 h2 =>
    intro S d a h0 hS
    have e : (T.node l r).dep.map (· + d) = l.dep.map (· + (d + 1)) ++ r.dep.map (· + (d + 1)) := by
      simp only [T.dep, List.map_map, ← List.map_append]
      exact List.map_congr_left fun x _ => by simp only [Function.comp]; omega
    rw [e, pushAll_append, h1 S (d + 1) a (by omega) (fun e he => by have := hS e he; omega)]
    have e1 : pushM S ⟨d + 1, a, l⟩ = ⟨d + 1, a, l⟩ :: S := by
      cases S with
      | nil => rfl
      | cons e' S => have := hS e' rfl; simp only [pushM]; rw [if_neg (by omega)]
    rw [e1, h2 _ (d + 1) _ (by omega) (fun e he => by simp at he; subst he; exact Int.le_refl _)]
    simp only [pushM]
    rw [if_pos ⟨trivial, by omega⟩]
    congr 2; omega
theorem made_of (t : T) : made t.dep = some t := by
  have h := stack_all t.dep t.dep.length (Nat.le_refl _)
  rw [List.take_length] at h
  have h2 := push_tree t [] 0 0 (Int.le_refl _) (by simp)
  have e : t.dep.map (· + (0 : Int)) = t.dep := by simp
  rw [e] at h2
  unfold made
  rw [h, h2]
  simp [pushM]
theorem made_iff {l : List Int} {t : T} : made l = some t ↔ t.dep = l := ⟨made_dep, fun h => h ▸ made_of t⟩
theorem dep_inj {t u : T} (h : t.dep = u.dep) : t = u := by
  have h1 := made_of t; rw [h, made_of u] at h1; simpa using h1.symm
/-- the first of all trees with these depths -/
def madeR (l : List Int) : Option T := (all l.length).find? fun t => t.dep == l
theorem madeR_eq {l : List Int} (h : l ≠ []) : madeR l = made l := by
  unfold madeR
  have hl : 1 ≤ l.length := List.length_pos_iff.2 h
  cases hf : (all l.length).find? fun t => t.dep == l with
  | some t =>
    have := List.find?_some hf
    exact (made_iff.2 (by simpa using this)).symm
  | none =>
    cases hm : made l with
    | none => rfl
    | some t =>
      have e := made_iff.1 hm
      rw [List.find?_eq_none] at hf
      have := hf t ((mem_all hl t).2 (by rw [← t.dep_length, e]))
      simp [e] at this
end R5
