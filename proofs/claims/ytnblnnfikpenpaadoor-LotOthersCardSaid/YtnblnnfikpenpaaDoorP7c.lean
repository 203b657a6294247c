/-
  Chapter 07 in plain words: lists of places in ascending order, what loads there weigh, how many such lists leave a number. Conditions: none.
  Chapter 05 in plain words: trees of kinds, their lists and depths; all trees, in the order of their lists. Conditions: none.
  Chapter 05 in plain words: the best trees by spans, and by trying all. Conditions: none.
  Chapter 05 in plain words: the least questions in any order. Conditions: none.
  Chapter 07 in plain words: of 2n - 1 loads there is a lot; how many; and what 2n - 2 loads without one are: all residues are tried. Conditions: none.
  Chapter 07 in plain words: of 2n - 1 loads there is a lot; how many lots there are; loads without a lot. Conditions: none.
-/
set_option linter.unusedVariables false
set_option linter.unusedSimpArgs false
set_option linter.deprecated false
namespace R7

/-- all lists of k places from a on, of d places, in ascending order -/
def combs : Nat → Nat → Nat → List (List Nat)
  | _, _, 0 => [[]]
  | 0, _, _ + 1 => []
  | d + 1, a, k + 1 => (combs d (a + 1) k).map (a :: ·) ++ combs d (a + 1) (k + 1)
theorem combs_zero (d a : Nat) : combs d a 0 = [[]] := by cases d <;> rfl
theorem mem_combs : ∀ (d a k : Nat) (l : List Nat), l ∈ combs d a k ↔ l.length = k ∧ l.Pairwise (· < ·) ∧ ∀ x ∈ l, a ≤ x ∧ x < a + d
  | d, a, 0, l => by
    rw [combs_zero]
    simp only [List.mem_singleton, List.length_eq_zero_iff]
    exact ⟨fun h => by subst h; simp, fun h => h.1⟩
  | 0, a, k + 1, l => by
    simp only [combs, List.not_mem_nil, false_iff]
    rintro ⟨h1, _, h3⟩
    cases l with
    | nil => cases h1
    | cons x l => have := h3 x (by simp); omega
  | d + 1, a, k + 1, l => by
    simp only [combs, List.mem_append, List.mem_map, mem_combs d (a + 1)]
    constructor
    · rintro (⟨t, ⟨h1, h2, h3⟩, rfl⟩ | ⟨h1, h2, h3⟩)
      · refine ⟨by simp [h1], List.pairwise_cons.2 ⟨fun y hy => by have := h3 y hy; omega, h2⟩, fun x hx => ?_⟩
        rcases List.mem_cons.1 hx with rfl | hx
        · omega
        · have := h3 x hx; omega
      · exact ⟨h1, h2, fun x hx => by have := h3 x hx; omega⟩
    · rintro ⟨h1, h2, h3⟩
      cases l with
      | nil => cases h1
      | cons x t =>
        have hx := h3 x (by simp)
        have ht := List.pairwise_cons.1 h2
        by_cases e : x = a
        · subst e
          exact .inl ⟨t, ⟨by simpa using h1, ht.2, fun y hy => by have := ht.1 y hy; have := h3 y (by simp [hy]); omega⟩, rfl⟩
        · refine .inr ⟨h1, h2, fun y hy => ?_⟩
          rcases List.mem_cons.1 hy with rfl | hy
          · omega
          · have := ht.1 y hy; have := h3 y (by simp [hy]); omega
/-- what the loads at some places weigh -/
def wt (L : List Int) (l : List Nat) : Int := (l.map fun i => L.getD i 0).sum
theorem wt_cons (L : List Int) (i : Nat) (l : List Nat) : wt L (i :: l) = L.getD i 0 + wt L l := by simp [wt]
theorem wt_nil (L : List Int) : wt L [] = 0 := rfl
/-- places that are moved on by one -/
theorem combs_succ : ∀ (d a k : Nat), combs d (a + 1) k = (combs d a k).map (·.map (· + 1))
  | d, a, 0 => by simp [combs_zero]
  | 0, a, k + 1 => rfl
  | d + 1, a, k + 1 => by
    simp only [combs]
    rw [combs_succ d (a + 1) k, combs_succ d (a + 1) (k + 1), List.map_append, List.map_map, List.map_map]
    rfl
theorem wt_succ (x : Int) (L : List Int) (l : List Nat) : wt (x :: L) (l.map (· + 1)) = wt L l := by
  unfold wt; rw [List.map_map]; congr 1

/-- how many lists of k loads leave r: by residues -/
def cnt (m : Nat) : List Nat → Nat → Nat → Nat
  | _, 0, r => if r % m = 0 then 1 else 0
  | [], _ + 1, _ => 0
  | x :: l, k + 1, r => cnt m l k ((r + (m - x % m)) % m) + cnt m l (k + 1) r
theorem cnt_zero (m : Nat) (l : List Nat) (r : Nat) : cnt m l 0 r = if r % m = 0 then 1 else 0 := by cases l <;> rfl
theorem cnt_mod {m : Nat} (hm : 0 < m) : ∀ (l : List Nat) (k r : Nat), cnt m l k (r % m) = cnt m l k r
  | l, 0, r => by rw [cnt_zero, cnt_zero, Nat.mod_mod]
  | [], k + 1, r => rfl
  | x :: l, k + 1, r => by
    simp only [cnt]
    rw [cnt_mod hm l (k + 1) r, Nat.mod_add_mod]
theorem two_back {m r x y : Nat} (hm : 0 < m) : ((r + (m - x % m)) % m + (m - y % m)) % m = ((r + (m - y % m)) % m + (m - x % m)) % m := by
  rw [Nat.mod_add_mod, Nat.mod_add_mod]; congr 1; omega
theorem cnt_swap {m : Nat} (hm : 0 < m) (x y : Nat) (l : List Nat) : ∀ (k r : Nat), cnt m (x :: y :: l) k r = cnt m (y :: x :: l) k r
  | 0, r => by rw [cnt_zero, cnt_zero]
  | 1, r => by
    simp only [cnt, cnt_zero]
    omega
  | k + 2, r => by
    simp only [cnt]
    rw [two_back hm]
    omega
theorem cnt_perm {m : Nat} (hm : 0 < m) {a b : List Nat} (h : a.Perm b) : ∀ k r, cnt m a k r = cnt m b k r := by
  induction h with
  | nil => intro k r; rfl
  | cons x _ ih =>
    intro k r
    cases k with
    | zero => rw [cnt_zero, cnt_zero]
    | succ k => simp only [cnt, ih]
  | swap x y l => intro k r; exact cnt_swap hm y x l k r
  | trans _ _ h1 h2 => intro k r; rw [h1, h2]
theorem cnt_res {m : Nat} : ∀ (l : List Nat) (k r : Nat), cnt m (l.map (· % m)) k r = cnt m l k r
  | l, 0, r => by rw [cnt_zero, cnt_zero]
  | [], k + 1, r => rfl
  | x :: l, k + 1, r => by simp only [List.map_cons, cnt, Nat.mod_mod]; rw [cnt_res l, cnt_res l]
/-- the residues of loads -/
def res (m : Nat) (L : List Int) : List Nat := L.map fun x => (x % (m : Int)).toNat
theorem sub_mod {m : Nat} (hm : 0 < m) (x w : Int) (r : Nat) (hr : r < m) : (x + w) % m = r ↔ w % m = ((r + (m - (x % m).toNat % m)) % m : Nat) := by
  have h1 := Int.emod_nonneg x (show (m : Int) ≠ 0 by omega)
  have h2 := Int.emod_lt_of_pos x (show (0 : Int) < m by omega)
  have e1 : (x % m).toNat % m = (x % m).toNat := Nat.mod_eq_of_lt (by omega)
  rw [e1]
  have e2 : (((r + (m - (x % m).toNat)) % m : Nat) : Int) = ((r : Int) + (m - x % m)) % m := by
    rw [Int.natCast_emod]; congr 1; omega
  rw [e2]
  have h3 : (r : Int) % m = r := Int.emod_eq_of_lt (by omega) (by omega)
  constructor
  · intro h
    have : w % m = ((x + w) % m + (m - x % m)) % m := by
      rw [Int.emod_add_emod]
      have : x + w + (m - x % m) = w + m * (x / m + 1) := by
        have := Int.mul_ediv_add_emod x m
        rw [Int.mul_add, Int.mul_one]; omega
      rw [this, Int.add_mul_emod_self_left]
    rw [this, h]
  · intro h
    have : (x + w) % m = (x + w % m) % m := by rw [Int.add_emod_emod]
    rw [this, h, Int.add_emod_emod]
    have : x + (↑r + (↑m - x % ↑m)) = r + m * (x / m + 1) := by
      have := Int.mul_ediv_add_emod x m
      rw [Int.mul_add, Int.mul_one]; omega
    rw [this, Int.add_mul_emod_self_left, h3]
theorem res_lt {m : Nat} (hm : 0 < m) (L : List Int) : ∀ x ∈ res m L, x < m := by
  intro x hx
  obtain ⟨y, _, rfl⟩ := List.mem_map.1 hx
  have h1 := Int.emod_nonneg y (show (m : Int) ≠ 0 by omega)
  have h2 := Int.emod_lt_of_pos y (show (0 : Int) < m by omega)
  omega
/-- lists of places are counted as residues say -/
theorem count_combs {m : Nat} (hm : 0 < m) : ∀ (L : List Int) (k r : Nat), r < m → ((combs L.length 0 k).filter fun l => wt L l % m == (r : Int)).length = cnt m (res m L) k r
  | L, 0, r, hr => by
    rw [combs_zero, cnt_zero, Nat.mod_eq_of_lt hr]
    by_cases h : r = 0
    · subst h; simp [wt]
    · rw [if_neg h]
      have : ¬ ((0 : Int) = r) := by omega
      simp [wt, this]
  | [], k + 1, r, hr => rfl
  | x :: L, k + 1, r, hr => by
    simp only [List.length_cons, combs, res, List.map_cons, cnt, List.filter_append, List.length_append]
    rw [combs_succ, combs_succ, List.map_map, List.filter_map, List.filter_map, List.length_map, List.length_map]
    have e1 : ∀ l, ((fun l => wt (x :: L) l % (m : Int) == (r : Int)) ∘ fun l : List Nat => l.map (· + 1)) l = (wt L l % m == (r : Int)) := fun l => by
      simp only [Function.comp_apply, wt_succ]
    have e2 : ∀ l, ((fun l => wt (x :: L) l % (m : Int) == (r : Int)) ∘ ((fun x => 0 :: x) ∘ fun l : List Nat => l.map (· + 1))) l = (wt L l % m == (((r + (m - (x % m).toNat % m)) % m : Nat) : Int)) := fun l => by
      simp only [Function.comp_apply, wt_cons, wt_succ, List.getD_cons_zero]
      rw [Bool.eq_iff_iff, beq_iff_eq, beq_iff_eq]
      exact sub_mod hm x (wt L l) r hr
    rw [List.filter_congr fun l _ => e2 l, List.filter_congr fun l _ => e1 l, count_combs hm L k _ (Nat.mod_lt _ hm), count_combs hm L (k + 1) r hr]
    rfl
/-- there is such a list just if they are not none -/
theorem exists_comb {m : Nat} (hm : 0 < m) (L : List Int) (k r : Nat) (hr : r < m) : (∃ l ∈ combs L.length 0 k, wt L l % m = r) ↔ 0 < cnt m (res m L) k r := by
  rw [← count_combs hm L k r hr, List.length_pos_iff_exists_mem]
  simp only [List.mem_filter, beq_iff_eq]
end R7

namespace R5

/-- a tree of kinds: a kind alone, or a sieve with what falls through and what stays -/
inductive T where
  | leaf
  | node (l r : T)
  deriving DecidableEq, Repr

def T.kinds : T → Nat
  | .leaf => 1
  | .node l r => l.kinds + r.kinds
/-- the list of a tree whose first kind is a -/
def T.enc : T → Nat → List Int
  | .leaf, _ => []
  | .node l r, a => ((a + l.kinds - 1 : Nat) : Int) :: (l.enc a ++ r.enc (a + l.kinds))
def T.dep : T → List Int
  | .leaf => [0]
  | .node l r => (l.dep ++ r.dep).map (· + 1)
/-- all trees of n kinds -/
def allF : Nat → Nat → List T
  | 0, _ => [.leaf]
  | f + 1, n => if n ≤ 1 then [.leaf] else (List.range (n - 1)).flatMap fun i => (allF f (i + 1)).flatMap fun l => (allF f (n - 1 - i)).map fun r => .node l r
def all (n : Nat) : List T := allF n n

theorem T.kinds_pos (t : T) : 1 ≤ t.kinds := by
  induction t with
  | leaf => simp [T.kinds]
  | node l r h1 h2 => simp only [T.kinds]; omega
theorem allF_eq : ∀ (f g n : Nat), n ≤ f → n ≤ g → allF f n = allF g n := by
  intro f
  induction f with
  | zero => intro g n hf hg; obtain rfl : n = 0 := by omega
            cases g with
            | zero => rfl
            | succ g => simp [allF]
  | succ f ih =>
    intro g n hf hg
    cases g with
    | zero => obtain rfl : n = 0 := by omega
              simp [allF]
    | succ g =>
      simp only [allF]
      split
      · rfl
      · have e : ∀ i, i ∈ List.range (n - 1) → ((allF f (i + 1)).flatMap fun l => (allF f (n - 1 - i)).map fun r => T.node l r) = (allF g (i + 1)).flatMap fun l => (allF g (n - 1 - i)).map fun r => T.node l r := by
          intro i hi
          have := List.mem_range.1 hi
          rw [ih g (i + 1) (by omega) (by omega), ih g (n - 1 - i) (by omega) (by omega)]
        rw [List.flatMap_def, List.flatMap_def, List.map_congr_left e]
theorem all_one : all 1 = [.leaf] := rfl
theorem all_step {n : Nat} (h : 2 ≤ n) : all n = (List.range (n - 1)).flatMap fun i => (all (i + 1)).flatMap fun l => (all (n - 1 - i)).map fun r => .node l r := by
  obtain ⟨m, rfl⟩ : ∃ m, n = m + 1 := ⟨n - 1, by omega⟩
  unfold all
  rw [allF, if_neg (by omega)]
  have e : ∀ i, i ∈ List.range (m + 1 - 1) → ((allF m (i + 1)).flatMap fun l => (allF m (m + 1 - 1 - i)).map fun r => T.node l r) = (allF (i + 1) (i + 1)).flatMap fun l => (allF (m + 1 - 1 - i) (m + 1 - 1 - i)).map fun r => T.node l r := by
    intro i hi
    have := List.mem_range.1 hi
    rw [allF_eq m (i + 1) (i + 1) (by omega) (by omega), allF_eq m (m + 1 - 1 - i) (m + 1 - 1 - i) (by omega) (by omega)]
  rw [List.flatMap_def, List.flatMap_def, List.map_congr_left e]
theorem mem_all {n : Nat} (h : 1 ≤ n) (t : T) : t ∈ all n ↔ t.kinds = n := by
  induction n using Nat.strongRecOn generalizing t with
  | _ n ih =>
    by_cases h1 : n = 1
    · subst h1
      rw [all_one]
      cases t with
      | leaf => simp [T.kinds]
      | node l r =>
        have := l.kinds_pos; have := r.kinds_pos
        simp [T.kinds]; omega
    · rw [all_step (by omega)]
      simp only [List.mem_flatMap, List.mem_range, List.mem_map]
      constructor
      · rintro ⟨i, hi, l, hl, r, hr, rfl⟩
        have h2 := (ih (i + 1) (by omega) (by omega) l).1 hl
        have h3 := (ih (n - 1 - i) (by omega) (by omega) r).1 hr
        simp only [T.kinds]; omega
      · intro ht
        cases t with
        | leaf => simp [T.kinds] at ht; omega
        | node l r =>
          have h2 := l.kinds_pos; have h3 := r.kinds_pos
          simp only [T.kinds] at ht
          exact ⟨l.kinds - 1, by omega, l, (ih _ (by omega) (by omega) l).2 (by omega), r, (ih _ (by omega) (by omega) r).2 (by omega), rfl⟩
theorem T.enc_length (t : T) (a : Nat) : (t.enc a).length = t.kinds - 1 := by
  induction t generalizing a with
  | leaf => rfl
  | node l r h1 h2 =>
    have h3 := l.kinds_pos; have h4 := r.kinds_pos
    simp only [T.enc, T.kinds, List.length_cons, List.length_append, h1, h2]; omega
theorem T.dep_length (t : T) : t.dep.length = t.kinds := by
  induction t with
  | leaf => rfl
  | node l r h1 h2 => simp [T.dep, T.kinds, h1, h2]
theorem T.dep_bd (t : T) : ∀ d ∈ t.dep, 0 ≤ d ∧ d < t.kinds := by
  induction t with
  | leaf => simp [T.dep, T.kinds]
  | node l r h1 h2 =>
    intro d hd
    have h3 := l.kinds_pos; have h4 := r.kinds_pos
    simp only [T.dep, List.mem_map, List.mem_append] at hd
    obtain ⟨e, he, rfl⟩ := hd
    simp only [T.kinds]
    rcases he with he | he
    · have := h1 e he; omega
    · have := h2 e he; omega
/-- a list tells its tree -/
theorem T.enc_inj (t : T) : ∀ (u : T) (a : Nat), t.kinds = u.kinds → t.enc a = u.enc a → t = u := by
  induction t with
  | leaf =>
    intro u a hk he
    cases u with
    | leaf => rfl
    | node l r => simp [T.enc] at he
  | node l r h1 h2 =>
    intro u a hk he
    cases u with
    | leaf => simp [T.enc] at he
    | node l' r' =>
      have h3 := l.kinds_pos; have h4 := l'.kinds_pos
      simp only [T.enc, List.cons.injEq] at he
      have hl : l.kinds = l'.kinds := by omega
      have hl2 : (l.enc a).length = (l'.enc a).length := by rw [T.enc_length, T.enc_length, hl]
      obtain ⟨e1, e2⟩ := List.append_inj he.2 hl2
      rw [hl] at e2
      simp only [T.kinds] at hk
      rw [h1 l' a hl e1, h2 r' (a + l'.kinds) (by omega) e2]

/-! ### loads, and the best trees -/
/-- the loads of n kinds from a on -/
def sumOf (L : List Int) (a n : Nat) : Int := ((L.drop a).take n).sum
/-- the questions of a tree whose first kind is a -/
def T.cost (L : List Int) : T → Nat → Int
  | .leaf, _ => 0
  | .node l r, a => l.cost L a + r.cost L (a + l.kinds) + sumOf L a (l.kinds + r.kinds)
def dot : List Int → List Int → Int
  | x :: xs, y :: ys => x * y + dot xs ys
  | _, _ => 0
theorem dot_append : ∀ (xs xs' ys ys' : List Int), xs.length = ys.length → dot (xs ++ xs') (ys ++ ys') = dot xs ys + dot xs' ys'
  | [], xs', [], ys', _ => by simp [dot]
  | x :: xs, xs', y :: ys, ys', h => by
    simp only [List.cons_append, dot]
    rw [dot_append xs xs' ys ys' (by simpa using h)]; omega
theorem dot_succ : ∀ (xs ys : List Int), xs.length = ys.length → dot xs (ys.map (· + 1)) = dot xs ys + xs.sum
  | [], [], _ => by simp [dot]
  | x :: xs, y :: ys, h => by
    simp only [List.map_cons, dot, List.sum_cons]
    rw [dot_succ xs ys (by simpa using h), Int.mul_add]; omega
theorem take_drop_add {α : Type} (L : List α) (a m n : Nat) : (L.drop a).take (m + n) = (L.drop a).take m ++ (L.drop (a + m)).take n := by
  rw [List.take_add, List.drop_drop]
theorem sumOf_add (L : List Int) (a m n : Nat) : sumOf L a (m + n) = sumOf L a m + sumOf L (a + m) n := by
  unfold sumOf; rw [take_drop_add, List.sum_append]
theorem T.cost_eq (L : List Int) (t : T) : ∀ (a : Nat), a + t.kinds ≤ L.length → t.cost L a = dot ((L.drop a).take t.kinds) t.dep := by
  induction t with
  | leaf =>
    intro a h
    simp only [T.kinds] at h
    cases hd : L.drop a with
    | nil => simp [T.cost, T.dep, dot]
    | cons x l => simp [T.cost, T.dep, T.kinds, dot]
  | node l r h1 h2 =>
    intro a h
    simp only [T.kinds] at h
    simp only [T.cost, T.dep, T.kinds]
    rw [h1 a (by omega), h2 (a + l.kinds) (by omega), dot_succ _ _ (by simp [T.dep_length]; omega), take_drop_add, dot_append _ _ _ _ (by simp [T.dep_length]; omega)]
    unfold sumOf
    rw [take_drop_add]

/-- the smallest of some numbers -/
def minL : List Int → Int
  | [] => 0
  | x :: l => l.foldl min x
theorem foldl_min_le : ∀ (l : List Int) (x : Int), l.foldl min x ≤ x ∧ ∀ y ∈ l, l.foldl min x ≤ y
  | [], x => by simp
  | z :: l, x => by
    obtain ⟨h1, h2⟩ := foldl_min_le l (min x z)
    simp only [List.foldl_cons]
    refine ⟨by omega, fun y hy => ?_⟩
    rcases List.mem_cons.1 hy with rfl | hy
    · omega
    · exact h2 y hy
theorem foldl_min_mem : ∀ (l : List Int) (x : Int), l.foldl min x = x ∨ l.foldl min x ∈ l
  | [], x => by simp
  | z :: l, x => by
    simp only [List.foldl_cons]
    rcases foldl_min_mem l (min x z) with h | h
    · rw [h]
      rcases Int.le_total x z with h' | h'
      · rw [Int.min_eq_left h']; exact .inl rfl
      · rw [Int.min_eq_right h']; exact .inr (by simp)
    · exact .inr (List.mem_cons_of_mem _ h)
theorem minL_le {l : List Int} {y : Int} (h : y ∈ l) : minL l ≤ y := by
  cases l with
  | nil => simp at h
  | cons x l =>
    rcases List.mem_cons.1 h with rfl | h
    · exact (foldl_min_le l y).1
    · exact (foldl_min_le l x).2 y h
theorem minL_mem {l : List Int} (h : l ≠ []) : minL l ∈ l := by
  cases l with
  | nil => simp at h
  | cons x l =>
    rcases foldl_min_mem l x with h | h
    · simp [minL, h]
    · exact List.mem_cons_of_mem _ h
theorem minL_eq {l : List Int} {m : Int} (h : m ∈ l) (hm : ∀ y ∈ l, m ≤ y) : minL l = m := by
  have h1 := minL_le h
  have h2 := hm _ (minL_mem (by intro e; simp [e] at h))
  omega

/-- the least questions of n kinds from a on -/
def least (L : List Int) (a n : Nat) : Int := minL ((all n).map fun t => t.cost L a)
/-- the best trees of n kinds from a on -/
def bests (L : List Int) (a n : Nat) : List T := (all n).filter fun t => t.cost L a == least L a n

theorem all_ne {n : Nat} (h : 1 ≤ n) : all n ≠ [] := by
  have : ∀ n, 1 ≤ n → ∃ t : T, t.kinds = n := by
    intro n h
    induction n with
    | zero => omega
    | succ n ih =>
      cases n with
      | zero => exact ⟨.leaf, rfl⟩
      | succ n => obtain ⟨t, ht⟩ := ih (by omega); exact ⟨.node .leaf t, by simp [T.kinds, ht]; omega⟩
  obtain ⟨t, ht⟩ := this n h
  intro e
  have := (mem_all h t).2 ht
  simp [e] at this
theorem least_le {L : List Int} {a n : Nat} (h : 1 ≤ n) {t : T} (ht : t.kinds = n) : least L a n ≤ t.cost L a :=
  minL_le (List.mem_map.2 ⟨t, (mem_all h t).2 ht, rfl⟩)
theorem least_mem {L : List Int} {a n : Nat} (h : 1 ≤ n) : ∃ t : T, t.kinds = n ∧ t.cost L a = least L a n := by
  have := minL_mem (l := (all n).map fun t => t.cost L a) (by simpa using all_ne h)
  obtain ⟨t, ht, he⟩ := List.mem_map.1 this
  exact ⟨t, (mem_all h t).1 ht, he⟩
theorem least_one (L : List Int) (a : Nat) : least L a 1 = 0 := rfl
theorem bests_one (L : List Int) (a : Nat) : bests L a 1 = [.leaf] := by
  simp [bests, all_one, least_one, T.cost]
/-- the questions if the top is the one with i + 1 kinds that fall through -/
def topQ (L : List Int) (a n i : Nat) : Int := least L a (i + 1) + least L (a + (i + 1)) (n - 1 - i) + sumOf L a n
theorem least_step (L : List Int) (a : Nat) {n : Nat} (h : 2 ≤ n) : least L a n = minL ((List.range (n - 1)).map (topQ L a n)) := by
  refine (minL_eq ?_ ?_).symm
  · obtain ⟨t, ht, he⟩ := least_mem (L := L) (a := a) (n := n) (by omega)
    cases t with
    | leaf => simp [T.kinds] at ht; omega
    | node l r =>
      have h1 := l.kinds_pos; have h2 := r.kinds_pos
      simp only [T.kinds] at ht
      refine List.mem_map.2 ⟨l.kinds - 1, List.mem_range.2 (by omega), ?_⟩
      have e1 : l.kinds - 1 + 1 = l.kinds := by omega
      have e2 : n - 1 - (l.kinds - 1) = r.kinds := by omega
      simp only [topQ, e1, e2]
      refine Int.le_antisymm ?_ ?_
      · rw [← he]
        simp only [T.cost, ht]
        have h3 := least_le (L := L) (a := a) h1 (t := l) rfl
        have h4 := least_le (L := L) (a := a + l.kinds) h2 (t := r) rfl
        omega
      · obtain ⟨l', hl, hl'⟩ := least_mem (L := L) (a := a) (n := l.kinds) h1
        obtain ⟨r', hr, hr'⟩ := least_mem (L := L) (a := a + l.kinds) (n := r.kinds) h2
        have := least_le (L := L) (a := a) (n := n) (by omega) (t := .node l' r') (by simp [T.kinds]; omega)
        simp only [T.cost, hl, hr, ht, hl', hr'] at this
        omega
  · intro y hy
    obtain ⟨i, hi, rfl⟩ := List.mem_map.1 hy
    have hi := List.mem_range.1 hi
    obtain ⟨l', hl, hl'⟩ := least_mem (L := L) (a := a) (n := i + 1) (by omega)
    obtain ⟨r', hr, hr'⟩ := least_mem (L := L) (a := a + (i + 1)) (n := n - 1 - i) (by omega)
    have e : i + 1 + (n - 1 - i) = n := by omega
    have := least_le (L := L) (a := a) (n := n) (by omega) (t := .node l' r') (by simp [T.kinds]; omega)
    simp only [T.cost, hl, hr, hl', hr', e] at this
    exact this
theorem filter_flatMap' {α β : Type} (p : β → Bool) (f : α → List β) (l : List α) : (l.flatMap f).filter p = l.flatMap fun x => (f x).filter p := by
  induction l with
  | nil => rfl
  | cons x l ih => simp [List.flatMap_cons, ih]
theorem flatMap_ext {α β : Type} {l : List α} {f g : α → List β} (h : ∀ x ∈ l, f x = g x) : l.flatMap f = l.flatMap g := by
  rw [List.flatMap_def, List.flatMap_def, List.map_congr_left h]
/-- the pairs of two lists as trees -/
def prod (x y : List T) : List T := x.flatMap fun l => y.map fun r => .node l r
theorem prod_filter (x y : List T) (p q : T → Bool) (s : T → Bool) (h : ∀ l ∈ x, ∀ r ∈ y, s (.node l r) = (p l && q r)) : (prod x y).filter s = prod (x.filter p) (y.filter q) := by
  unfold prod
  rw [filter_flatMap']
  induction x with
  | nil => rfl
  | cons l x ih =>
    have ih := ih fun l' hl' => h l' (List.mem_cons_of_mem _ hl')
    simp only [List.flatMap_cons, List.filter_cons]
    rw [ih]
    have e : (y.map fun r => T.node l r).filter s = if p l = true then (y.filter q).map fun r => T.node l r else [] := by
      rw [List.filter_map]
      have : y.filter (s ∘ fun r => T.node l r) = y.filter fun r => p l && q r := List.filter_congr fun r hr => h l (by simp) r hr
      rw [this]
      cases p l <;> simp
    rw [e]
    cases p l <;> simp
theorem bests_step (L : List Int) (a : Nat) {n : Nat} (h : 2 ≤ n) : bests L a n = (List.range (n - 1)).flatMap fun i => if topQ L a n i = least L a n then prod (bests L a (i + 1)) (bests L (a + (i + 1)) (n - 1 - i)) else [] := by
  unfold bests
  rw [all_step h, filter_flatMap']
  refine flatMap_ext fun i hi => ?_
  have hi := List.mem_range.1 hi
  have e : i + 1 + (n - 1 - i) = n := by omega
  have key : ∀ l ∈ all (i + 1), ∀ r ∈ all (n - 1 - i), l.kinds = i + 1 ∧ r.kinds = n - 1 - i ∧ least L a (i + 1) ≤ l.cost L a ∧ least L (a + (i + 1)) (n - 1 - i) ≤ r.cost L (a + (i + 1)) ∧
      (T.node l r).cost L a = l.cost L a + r.cost L (a + (i + 1)) + sumOf L a n := by
    intro l hl r hr
    have h1 := (mem_all (by omega) l).1 hl
    have h2 := (mem_all (by omega) r).1 hr
    refine ⟨h1, h2, least_le (by omega) h1, least_le (by omega) h2, ?_⟩
    simp only [T.cost, h1, h2, e]
  have hmin : least L a n ≤ topQ L a n i := by
    rw [least_step L a h]
    exact minL_le (List.mem_map.2 ⟨i, List.mem_range.2 hi, rfl⟩)
  by_cases hq : topQ L a n i = least L a n
  · rw [if_pos hq]
    refine prod_filter _ _ _ _ _ fun l hl r hr => ?_
    obtain ⟨_, _, h3, h4, h5⟩ := key l hl r hr
    rw [h5, ← hq]
    unfold topQ
    rw [Bool.eq_iff_iff]
    simp only [beq_iff_eq, Bool.and_eq_true]
    omega
  · rw [if_neg hq]
    rw [List.filter_eq_nil_iff]
    intro t ht
    obtain ⟨l, hl, ht⟩ := List.mem_flatMap.1 ht
    obtain ⟨r, hr, rfl⟩ := List.mem_map.1 ht
    obtain ⟨_, _, h3, h4, h5⟩ := key l hl r hr
    unfold topQ at hq hmin
    simp only [h5, beq_iff_eq]
    omega
theorem bests_ne (L : List Int) (a : Nat) {n : Nat} (h : 1 ≤ n) : bests L a n ≠ [] := by
  obtain ⟨t, ht, he⟩ := least_mem (L := L) (a := a) (n := n) h
  intro e
  have : t ∈ bests L a n := List.mem_filter.2 ⟨(mem_all h t).2 ht, by simp [he]⟩
  simp [e] at this
end R5

namespace R5

/-! ### those with the smallest number, one after the other -/
section
variable {α : Type} (c : α → Int)
def argL (l : List α) : List α := l.filter fun x => c x == minL (l.map c)
theorem minL_snoc (l : List Int) (x : Int) : minL (l ++ [x]) = if l = [] ∨ x < minL l then x else minL l := by
  cases l with
  | nil => simp [minL]
  | cons y l =>
    simp only [List.cons_append, minL, List.foldl_append, List.foldl_cons, List.foldl_nil, reduceCtorEq, false_or]
    split <;> omega
theorem argL_snoc (l : List α) (x : α) : argL c (l ++ [x]) = if l = [] ∨ c x < minL (l.map c) then [x] else if c x = minL (l.map c) then argL c l ++ [x] else argL c l := by
  unfold argL
  rw [List.map_append, List.map_singleton, minL_snoc, List.filter_append]
  by_cases h : l = []
  · subst h; simp
  · have hm : l.map c ≠ [] := by simpa using h
    by_cases h2 : c x < minL (l.map c)
    · rw [if_pos (.inr h2), if_pos (.inr h2)]
      have : l.filter (fun y => c y == c x) = [] := by
        rw [List.filter_eq_nil_iff]
        intro y hy
        have := minL_le (List.mem_map.2 ⟨y, hy, rfl⟩ : c y ∈ l.map c)
        simp only [beq_iff_eq]; omega
      simp [this]
    · rw [if_neg (by simp [hm, h2]), if_neg (by simp [h, h2])]
      by_cases h3 : c x = minL (l.map c)
      · rw [if_pos h3]; simp [h3]
      · rw [if_neg h3]; simp [h3]
end

/-! ### what is known of spans -/
def tops (L : List Int) (a n : Nat) : List Nat := argL (topQ L a n) (List.range (n - 1))
def firstT (L : List Int) (a n : Nat) : Nat := (tops L a n).headD 0
def lastT (L : List Int) (a n : Nat) : Nat := (tops L a n).getLastD 0
theorem tops_ne (L : List Int) (a : Nat) {n : Nat} (h : 2 ≤ n) : tops L a n ≠ [] := by
  intro e
  have hne : (List.range (n - 1)).map (topQ L a n) ≠ [] := by simp; omega
  obtain ⟨i, hi, he⟩ := List.mem_map.1 (minL_mem hne)
  have : i ∈ tops L a n := List.mem_filter.2 ⟨hi, by simp [he]⟩
  simp [e] at this
theorem tops_mem {L : List Int} {a n i : Nat} (hn : 2 ≤ n) (h : i ∈ tops L a n) : i < n - 1 ∧ topQ L a n i = least L a n := by
  obtain ⟨h1, h2⟩ := List.mem_filter.1 h
  exact ⟨List.mem_range.1 h1, by rw [least_step L a hn]; simpa using h2⟩
theorem headD_mem {l : List Nat} (h : l ≠ []) : l.headD 0 ∈ l := by cases l <;> simp_all
theorem getLastD_mem {l : List Nat} (h : l ≠ []) : l.getLastD 0 ∈ l := by
  rw [List.getLastD_eq_getLast?, List.getLast?_eq_some_getLast h]; exact List.getLast_mem h
theorem firstT_lt {L : List Int} {a n : Nat} (h : 2 ≤ n) : firstT L a n < n - 1 := (tops_mem h (headD_mem (tops_ne L a h))).1
theorem lastT_lt {L : List Int} {a n : Nat} (h : 2 ≤ n) : lastT L a n < n - 1 := (tops_mem h (getLastD_mem (tops_ne L a h))).1
theorem flatMap_if {α β : Type} (p : α → Bool) (f : α → List β) (l : List α) : (l.flatMap fun x => if p x = true then f x else []) = (l.filter p).flatMap f := by
  induction l with
  | nil => rfl
  | cons x l ih => simp only [List.flatMap_cons, List.filter_cons, ih]; cases p x <;> simp
theorem bests_tops (L : List Int) (a : Nat) {n : Nat} (h : 2 ≤ n) : bests L a n = (tops L a n).flatMap fun i => prod (bests L a (i + 1)) (bests L (a + (i + 1)) (n - 1 - i)) := by
  rw [bests_step L a h]
  unfold tops argL
  rw [← least_step L a h, ← flatMap_if]
  refine flatMap_ext fun i _ => ?_
  by_cases h1 : topQ L a n i = least L a n <;> simp [h1]
theorem prod_length (x y : List T) : (prod x y).length = x.length * y.length := by
  unfold prod
  induction x with
  | nil => simp
  | cons l x ih => simp [List.flatMap_cons, ih, Nat.add_mul, Nat.add_comm]
def many (L : List Int) (a n : Nat) : Nat := (bests L a n).length
theorem many_one (L : List Int) (a : Nat) : many L a 1 = 1 := by simp [many, bests_one]
theorem many_pos (L : List Int) (a : Nat) {n : Nat} (h : 1 ≤ n) : 1 ≤ many L a n := by
  have := bests_ne L a h
  unfold many
  cases h' : bests L a n with
  | nil => exact absurd h' this
  | cons _ _ => simp
theorem many_le (L : List Int) (a n : Nat) : many L a n ≤ (all n).length := List.length_filter_le _ _
theorem all_len : ∀ n, n ≤ 8 → (all n).length ≤ 429 := by decide +kernel
theorem many_lt (L : List Int) (a : Nat) {n : Nat} (h : n ≤ 8) : many L a n ≤ 429 := Nat.le_trans (many_le L a n) (all_len n h)
/-- the part of how many, by tops -/
def partM (L : List Int) (a n i : Nat) : Nat := many L a (i + 1) * many L (a + (i + 1)) (n - 1 - i)
theorem many_tops (L : List Int) (a : Nat) {n : Nat} (h : 2 ≤ n) : many L a n = ((tops L a n).map (partM L a n)).sum := by
  unfold many
  rw [bests_tops L a h, List.length_flatMap]
  congr 1
  refine List.map_congr_left fun i _ => prod_length _ _
theorem head_prod (x y : List T) (hx : x ≠ []) (hy : y ≠ []) : (prod x y).head? = some (.node (x.head hx) (y.head hy)) := by
  cases x with
  | nil => simp at hx
  | cons a x => cases y with
    | nil => simp at hy
    | cons b y => simp [prod, List.flatMap_cons]
theorem last_prod (x y : List T) (hx : x ≠ []) (hy : y ≠ []) : (prod x y).getLast? = some (.node (x.getLast hx) (y.getLast hy)) := by
  obtain ⟨x', a, rfl⟩ : ∃ x' a, x = x' ++ [a] := ⟨x.dropLast, x.getLast hx, (List.dropLast_concat_getLast hx).symm⟩
  obtain ⟨y', b, rfl⟩ : ∃ y' b, y = y' ++ [b] := ⟨y.dropLast, y.getLast hy, (List.dropLast_concat_getLast hy).symm⟩
  simp [prod, List.flatMap_append, List.flatMap_cons]
/-- the first of the best trees -/
def bestT (L : List Int) (a n : Nat) : T := (bests L a n).headD .leaf
def lastB (L : List Int) (a n : Nat) : T := (bests L a n).getLastD .leaf
theorem bestT_one (L : List Int) (a : Nat) : bestT L a 1 = .leaf := by simp [bestT, bests_one]
theorem prod_ne {x y : List T} (hx : x ≠ []) (hy : y ≠ []) : prod x y ≠ [] := by
  intro e; have := head_prod x y hx hy; simp [e] at this
theorem bestT_step (L : List Int) (a : Nat) {n : Nat} (h : 2 ≤ n) : bestT L a n = .node (bestT L a (firstT L a n + 1)) (bestT L (a + (firstT L a n + 1)) (n - 1 - firstT L a n)) := by
  have hf := firstT_lt (L := L) (a := a) h
  have e := bests_tops L a h
  have ht := tops_ne L a h
  unfold firstT at hf ⊢
  cases hc : tops L a n with
  | nil => exact absurd hc ht
  | cons i l =>
    rw [hc, List.flatMap_cons] at e
    rw [hc] at hf
    simp only [List.headD_cons] at hf ⊢
    have h1 := bests_ne L a (n := i + 1) (by omega)
    have h2 := bests_ne L (a + (i + 1)) (n := n - 1 - i) (by omega)
    have h3 := head_prod _ _ h1 h2
    unfold bestT
    rw [e, List.headD_eq_head?_getD, List.head?_append, h3]
    simp [List.headD_eq_head?_getD, List.head?_eq_some_head h1, List.head?_eq_some_head h2]
theorem lastB_step (L : List Int) (a : Nat) {n : Nat} (h : 2 ≤ n) : lastB L a n = .node (lastB L a (lastT L a n + 1)) (lastB L (a + (lastT L a n + 1)) (n - 1 - lastT L a n)) := by
  have hf := lastT_lt (L := L) (a := a) h
  have e := bests_tops L a h
  have ht := tops_ne L a h
  unfold lastT at hf ⊢
  obtain ⟨l, i, hc⟩ : ∃ l i, tops L a n = l ++ [i] := ⟨_, _, (List.dropLast_concat_getLast ht).symm⟩
  rw [hc, List.flatMap_append, List.flatMap_cons, List.flatMap_nil, List.append_nil] at e
  rw [hc] at hf ⊢
  simp only [List.getLastD_concat] at hf ⊢
  have h1 := bests_ne L a (n := i + 1) (by omega)
  have h2 := bests_ne L (a + (i + 1)) (n := n - 1 - i) (by omega)
  have h3 := last_prod _ _ h1 h2
  unfold lastB
  rw [e, List.getLastD_eq_getLast?, List.getLast?_append, h3]
  simp [List.getLastD_eq_getLast?, List.getLast?_eq_some_getLast h1, List.getLast?_eq_some_getLast h2]
theorem bestT_mem (L : List Int) (a : Nat) {n : Nat} (h : 1 ≤ n) : bestT L a n ∈ bests L a n := by
  have := bests_ne L a h
  unfold bestT
  cases hc : bests L a n with
  | nil => exact absurd hc this
  | cons x l => simp
theorem lastB_mem (L : List Int) (a : Nat) {n : Nat} (h : 1 ≤ n) : lastB L a n ∈ bests L a n := by
  have := bests_ne L a h
  unfold lastB
  rw [List.getLastD_eq_getLast?, List.getLast?_eq_some_getLast this]
  exact List.getLast_mem this
theorem bests_kinds {L : List Int} {a n : Nat} (h : 1 ≤ n) {t : T} (ht : t ∈ bests L a n) : t.kinds = n := (mem_all h t).1 (List.mem_filter.1 ht).1
theorem bests_cost {L : List Int} {a n : Nat} {t : T} (ht : t ∈ bests L a n) : t.cost L a = least L a n := by simpa using (List.mem_filter.1 ht).2
theorem enc_head (l r : T) (a : Nat) : (T.node l r).enc a = ((a + l.kinds - 1 : Nat) : Int) :: (l.enc a ++ r.enc (a + l.kinds)) := rfl
theorem bestT_enc (L : List Int) (a : Nat) {n : Nat} (h : 2 ≤ n) : (bestT L a n).enc a = ((a + firstT L a n : Nat) : Int) :: ((bestT L a (firstT L a n + 1)).enc a ++ (bestT L (a + (firstT L a n + 1)) (n - 1 - firstT L a n)).enc (a + (firstT L a n + 1))) := by
  have hk := bests_kinds (by omega) (bestT_mem L a (n := firstT L a n + 1) (by omega))
  rw [bestT_step L a h, enc_head, hk, show a + (firstT L a n + 1) - 1 = a + firstT L a n by omega]
theorem lastB_top (L : List Int) (a : Nat) {n : Nat} (h : 2 ≤ n) : ((lastB L a n).enc a).head? = some ((a + lastT L a n : Nat) : Int) := by
  have hk := bests_kinds (by omega) (lastB_mem L a (n := lastT L a n + 1) (by omega))
  rw [lastB_step L a h, enc_head, hk, show a + (lastT L a n + 1) - 1 = a + lastT L a n by omega]; rfl

/-! ### bounds -/
def Loads (L : List Int) : Prop := ∀ x ∈ L, 1 ≤ x ∧ x ≤ 100
theorem sum_bd : ∀ (l : List Int), (∀ x ∈ l, 1 ≤ x ∧ x ≤ 100) → l.length ≤ l.sum ∧ l.sum ≤ 100 * l.length
  | [], _ => by simp
  | x :: l, h => by
    have := sum_bd l fun y hy => h y (List.mem_cons_of_mem _ hy)
    have := h x (by simp)
    simp only [List.sum_cons, List.length_cons]; omega
theorem sumOf_bd {L : List Int} (h : Loads L) (a n : Nat) : 0 ≤ sumOf L a n ∧ sumOf L a n ≤ 100 * n := by
  have := sum_bd ((L.drop a).take n) fun x hx => h x (List.mem_of_mem_drop (List.mem_of_mem_take hx))
  have h2 : ((L.drop a).take n).length ≤ n := List.length_take_le _ _
  unfold sumOf; omega
theorem cost_bd {L : List Int} (h : Loads L) (t : T) : ∀ a, 0 ≤ t.cost L a ∧ t.cost L a ≤ 100 * t.kinds * (t.kinds - 1 : Nat) := by
  induction t with
  | leaf => intro a; simp [T.cost, T.kinds]
  | node l r h1 h2 =>
    intro a
    have b1 := h1 a; have b2 := h2 (a + l.kinds)
    have b3 := sumOf_bd h a (l.kinds + r.kinds)
    have p1 := l.kinds_pos; have p2 := r.kinds_pos
    simp only [T.cost, T.kinds]
    obtain ⟨x, hx⟩ : ∃ x, l.kinds = x + 1 := ⟨l.kinds - 1, by omega⟩
    obtain ⟨y, hy⟩ : ∃ y, r.kinds = y + 1 := ⟨r.kinds - 1, by omega⟩
    rw [hx] at b1 b2 b3 ⊢; rw [hy] at b2 b3 ⊢
    refine ⟨by omega, ?_⟩
    have e1 : (100 * ((x + 1 : Nat) : Int) * ((x + 1 - 1 : Nat) : Int)) = 100 * (x * x + x) := by
      simp; rw [Int.mul_assoc, Int.add_mul]; simp
    have e2 : (100 * ((y + 1 : Nat) : Int) * ((y + 1 - 1 : Nat) : Int)) = 100 * (y * y + y) := by
      simp; rw [Int.mul_assoc, Int.add_mul]; simp
    have e3 : (100 * ((x + 1 + (y + 1) : Nat) : Int) * ((x + 1 + (y + 1) - 1 : Nat) : Int)) = 100 * (x * x + x + y * y + y + 2 * (x * y) + 2 * x + 2 * y + 2) := by
      have : ((x + 1 + (y + 1) - 1 : Nat) : Int) = x + y + 1 := by omega
      rw [this, Int.mul_assoc]
      congr 1
      push_cast
      have := Int.mul_comm (y : Int) x
      simp only [Int.add_mul, Int.mul_add, Int.mul_one, Int.one_mul]
      omega
    rw [e1] at b1; rw [e2] at b2; rw [e3]
    have : 0 ≤ (x : Int) * y := Int.mul_nonneg (by omega) (by omega)
    omega
theorem least_bd {L : List Int} (h : Loads L) (a : Nat) {n : Nat} (hn : 1 ≤ n) (h8 : n ≤ 8) : 0 ≤ least L a n ∧ least L a n ≤ 5600 := by
  obtain ⟨t, ht, he⟩ := least_mem (L := L) (a := a) hn
  have := cost_bd h t a
  rw [ht, he] at this
  refine ⟨this.1, Int.le_trans this.2 ?_⟩
  have : ∀ n : Nat, 1 ≤ n → n ≤ 8 → 100 * (n : Int) * ((n - 1 : Nat) : Int) ≤ 5600 := by
    intro n h1 h2
    obtain rfl | rfl | rfl | rfl | rfl | rfl | rfl | rfl : n = 1 ∨ n = 2 ∨ n = 3 ∨ n = 4 ∨ n = 5 ∨ n = 6 ∨ n = 7 ∨ n = 8 := by omega
    all_goals decide
  exact this n hn h8
end R5

namespace R5

/-- a number at its place in a list that rises -/
def ins (x : Int) (l : List Int) : List Int := l.takeWhile (· < x) ++ x :: l.dropWhile (· < x)
/-- the smallest two are put together, again and again: a list that rises -/
def anyF : Nat → List Int → Int
  | f + 1, x :: y :: l => x + y + anyF f (ins (x + y) l)
  | _, _ => 0
def Rises (l : List Int) : Prop := l.Pairwise (· ≤ ·)
theorem ins_perm (x : Int) (l : List Int) : (ins x l).Perm (x :: l) := by
  unfold ins
  refine List.perm_middle.trans ?_
  rw [List.takeWhile_append_dropWhile]
theorem ins_len (x : Int) (l : List Int) : (ins x l).length = l.length + 1 := (ins_perm x l).length_eq
theorem rises_takeWhile {x : Int} : ∀ {l : List Int}, Rises l → (∀ y ∈ l.takeWhile (· < x), y < x) ∧ ∀ y ∈ l.dropWhile (· < x), x ≤ y
  | [], _ => by simp
  | z :: l, h => by
    have h' : Rises l := (List.pairwise_cons.1 h).2
    obtain ⟨h1, h2⟩ := rises_takeWhile (x := x) h'
    by_cases hz : z < x
    · simp only [List.takeWhile_cons, hz, decide_true, if_true, List.dropWhile_cons]
      exact ⟨fun y hy => (List.mem_cons.1 hy).elim (fun e => e ▸ hz) (h1 y), h2⟩
    · simp only [List.takeWhile_cons, hz, decide_false, List.dropWhile_cons, if_false, Bool.false_eq_true]
      refine ⟨by simp, fun y hy => ?_⟩
      rcases List.mem_cons.1 hy with rfl | hy
      · omega
      · have := (List.pairwise_cons.1 h).1 y hy; omega
theorem ins_rises {x : Int} {l : List Int} (h : Rises l) : Rises (ins x l) := by
  obtain ⟨h1, h2⟩ := rises_takeWhile (x := x) h
  unfold ins Rises
  refine List.pairwise_append.2 ⟨List.Pairwise.sublist (List.takeWhile_sublist _) h, List.pairwise_cons.2 ⟨h2, List.Pairwise.sublist (List.dropWhile_sublist _) h⟩, fun a ha b hb => ?_⟩
  have := h1 a ha
  rcases List.mem_cons.1 hb with rfl | hb
  · omega
  · have := h2 b hb; omega
theorem rises_perm {l l' : List Int} (h : Rises l) (h' : Rises l') (hp : l.Perm l') : l = l' :=
  List.Perm.eq_of_pairwise (le := (· ≤ ·)) (fun a b _ _ h1 h2 => Int.le_antisymm h1 h2) h h' hp

/-! ### without order: the first smallest one is taken out -/
/-- the place of the first smallest number -/
def minAtU (l : List Int) : Nat → Nat
  | 0 => 0
  | k + 1 => if l.getD k 0 < l.getD (minAtU l k) 0 then k else minAtU l k
def minAt (l : List Int) : Nat := minAtU l l.length
theorem minAtU_lt (l : List Int) : ∀ k, minAtU l k < max k 1
  | 0 => by simp [minAtU]
  | k + 1 => by
    have := minAtU_lt l k
    simp only [minAtU]; split <;> omega
theorem minAtU_le (l : List Int) : ∀ k i, i < k → l.getD (minAtU l k) 0 ≤ l.getD i 0
  | 0, _, h => by omega
  | k + 1, i, h => by
    simp only [minAtU]
    split
    · rename_i hlt
      by_cases e : i = k
      · subst e; exact Int.le_refl _
      · have := minAtU_le l k i (by omega); omega
    · rename_i hlt
      by_cases e : i = k
      · subst e; omega
      · exact minAtU_le l k i (by omega)
theorem minAt_lt {l : List Int} (h : l ≠ []) : minAt l < l.length := by
  have := minAtU_lt l l.length
  have : 0 < l.length := List.length_pos_iff.2 h
  unfold minAt; omega
theorem getD_mem {l : List Int} {i : Nat} (h : i < l.length) : l.getD i 0 ∈ l := by
  rw [List.getD_eq_getElem?_getD, List.getElem?_eq_getElem h]; exact List.getElem_mem h
theorem minAt_least {l : List Int} {y : Int} (h : y ∈ l) : l.getD (minAt l) 0 ≤ y := by
  obtain ⟨i, hi, rfl⟩ := List.mem_iff_getElem.1 h
  have := minAtU_le l l.length i hi
  rwa [List.getD_eq_getElem?_getD (i := i), List.getElem?_eq_getElem hi] at this
theorem eraseIdx_perm : ∀ {l : List Int} {i : Nat}, i < l.length → l.Perm (l.getD i 0 :: l.eraseIdx i)
  | [], _, h => by simp at h
  | x :: l, 0, _ => by simp
  | x :: l, i + 1, h => by
    have := eraseIdx_perm (l := l) (i := i) (by simpa using h)
    simp only [List.getD_cons_succ, List.eraseIdx_cons_succ]
    exact (this.cons x).trans (List.Perm.swap _ _ _)
/-- the first smallest one, and the others -/
theorem take_min {l s : List Int} {x : Int} (hp : l.Perm (x :: s)) (hr : Rises (x :: s)) : l.getD (minAt l) 0 = x ∧ (l.eraseIdx (minAt l)).Perm s := by
  have hne : l ≠ [] := by rintro rfl; simpa using hp.length_eq
  have hlt := minAt_lt hne
  have h1 := eraseIdx_perm hlt
  have h2 : l.getD (minAt l) 0 = x := by
    have a := minAt_least (l := l) (y := x) (hp.mem_iff.2 (by simp))
    have b := hp.mem_iff.1 (getD_mem hlt)
    rcases List.mem_cons.1 b with b | b
    · exact b
    · have := (List.pairwise_cons.1 hr).1 _ b; omega
  refine ⟨h2, ?_⟩
  rw [h2] at h1
  exact (List.perm_cons x).1 (h1.symm.trans hp)
def refStep (l : List Int) : Int × List Int :=
  let m := l.getD (minAt l) 0
  let l' := l.eraseIdx (minAt l)
  (m + l'.getD (minAt l') 0, l'.eraseIdx (minAt l') ++ [m + l'.getD (minAt l') 0])
def refAny : Nat → List Int → Int
  | f + 1, l => if l.length ≤ 1 then 0 else (refStep l).1 + refAny f (refStep l).2
  | 0, _ => 0
theorem refStep_len {l : List Int} (h : 2 ≤ l.length) : (refStep l).2.length = l.length - 1 := by
  have h1 := minAt_lt (l := l) (by rintro rfl; simp at h)
  have e1 : (l.eraseIdx (minAt l)).length = l.length - 1 := List.length_eraseIdx_of_lt h1
  have h2 := minAt_lt (l := l.eraseIdx (minAt l)) (by intro e; rw [e] at e1; simp at e1; omega)
  simp only [refStep, List.length_append, List.length_singleton, List.length_eraseIdx_of_lt h2, e1]; omega
theorem refStep_eq {l s : List Int} {x y : Int} (hp : l.Perm (x :: y :: s)) (hr : Rises (x :: y :: s)) : (refStep l).1 = x + y ∧ (refStep l).2.Perm (ins (x + y) s) := by
  obtain ⟨h1, h2⟩ := take_min hp hr
  obtain ⟨h3, h4⟩ := take_min h2 (List.pairwise_cons.1 hr).2
  simp only [refStep, h1, h3]
  refine ⟨trivial, ?_⟩
  refine (List.perm_append_comm).trans ?_
  exact (h4.cons _).trans (ins_perm _ _).symm
theorem refAny_eq : ∀ (f : Nat) (l s : List Int), l.Perm s → Rises s → refAny f l = anyF f s
  | 0, _, s, _, _ => by cases s <;> rfl
  | f + 1, l, s, hp, hr => by
    have hl := hp.length_eq
    match s, hp, hr, hl with
    | [], _, _, hl => simp [refAny, anyF, hl]
    | [x], _, _, hl => simp [refAny, anyF, hl]
    | x :: y :: s, hp, hr, hl =>
      obtain ⟨h1, h2⟩ := refStep_eq hp hr
      simp only [refAny, anyF]
      rw [if_neg (by simp at hl; omega), h1, refAny_eq f _ _ h2 (ins_rises (List.pairwise_cons.1 (List.pairwise_cons.1 hr).2).2)]
/-- a list in ascending order -/
def insS (x : Int) : List Int → List Int
  | [] => [x]
  | y :: l => if x ≤ y then x :: y :: l else y :: insS x l
def sortI : List Int → List Int
  | [] => []
  | x :: l => insS x (sortI l)
theorem insS_perm (x : Int) : ∀ (l : List Int), (insS x l).Perm (x :: l)
  | [] => List.Perm.refl _
  | y :: l => by
    simp only [insS]
    split
    · exact List.Perm.refl _
    · exact ((insS_perm x l).cons y).trans (List.Perm.swap _ _ _)
theorem insS_rises {x : Int} : ∀ {l : List Int}, Rises l → Rises (insS x l)
  | [], _ => by simp [insS, Rises]
  | y :: l, h => by
    simp only [insS]
    split
    · rename_i hxy
      refine List.pairwise_cons.2 ⟨fun z hz => ?_, h⟩
      rcases List.mem_cons.1 hz with rfl | hz
      · exact hxy
      · have := (List.pairwise_cons.1 h).1 z hz; omega
    · rename_i hxy
      refine List.pairwise_cons.2 ⟨fun z hz => ?_, insS_rises (List.pairwise_cons.1 h).2⟩
      rcases List.mem_cons.1 ((insS_perm x l).mem_iff.1 hz) with rfl | hz
      · omega
      · exact (List.pairwise_cons.1 h).1 z hz
theorem sortI_perm : ∀ (l : List Int), (sortI l).Perm l
  | [] => List.Perm.refl _
  | x :: l => (insS_perm x _).trans ((sortI_perm l).cons x)
theorem sortI_rises : ∀ (l : List Int), Rises (sortI l)
  | [] => List.Pairwise.nil
  | x :: l => insS_rises (sortI_rises l)
def anyM (L : List Int) : Int := anyF L.length (sortI L)
theorem anyM_ref (L : List Int) : refAny L.length L = anyM L := refAny_eq _ _ _ (sortI_perm L).symm (sortI_rises L)
theorem sum_perm {a b : List Int} (h : a.Perm b) : a.sum = b.sum := by
  induction h with
  | nil => rfl
  | cons x _ ih => simp [ih]
  | swap x y l => simp only [List.sum_cons]; omega
  | trans _ _ h1 h2 => exact h1.trans h2
theorem anyF_bd : ∀ (f : Nat) (l : List Int), (∀ x ∈ l, 0 ≤ x) → 0 ≤ anyF f l ∧ anyF f l ≤ f * l.sum
  | 0, l, h => by
    have : ∀ (l : List Int), (∀ x ∈ l, 0 ≤ x) → 0 ≤ l.sum := fun l h => by induction l with
      | nil => simp
      | cons x l ih => have := ih fun y hy => h y (List.mem_cons_of_mem _ hy); have := h x (by simp); simp; omega
    cases l <;> simp [anyF]
  | f + 1, [], h => by simp [anyF]
  | f + 1, [x], h => by
    have := h x (by simp)
    simp only [anyF, List.sum_cons, List.sum_nil, Int.add_zero]
    exact ⟨by omega, Int.mul_nonneg (by omega) this⟩
  | f + 1, x :: y :: l, h => by
    have hx := h x (by simp); have hy := h y (by simp)
    have hp := ins_perm (x + y) l
    have h' : ∀ z ∈ ins (x + y) l, 0 ≤ z := fun z hz => by
      rcases List.mem_cons.1 (hp.mem_iff.1 hz) with rfl | hz
      · omega
      · exact h z (by simp [hz])
    obtain ⟨h1, h2⟩ := anyF_bd f _ h'
    have e : (ins (x + y) l).sum = x + y + l.sum := by rw [sum_perm hp]; simp
    have hl : 0 ≤ l.sum := by
      clear h1 h2 h' hp e
      have : ∀ (l : List Int), (∀ x ∈ l, 0 ≤ x) → 0 ≤ l.sum := fun l h => by induction l with
        | nil => simp
        | cons x l ih => have := ih fun y hy => h y (List.mem_cons_of_mem _ hy); have := h x (by simp); simp; omega
      exact this l fun z hz => h z (by simp [hz])
    rw [e] at h2
    simp only [anyF, List.sum_cons]
    refine ⟨by omega, ?_⟩
    push_cast
    rw [Int.add_mul, ← Int.add_assoc x y]
    omega
end R5

namespace R7

def row (m : Nat) (l : List Nat) (k : Nat) : List Nat := (List.range m).map (cnt m l k)
def rot (m x : Nat) (r : List Nat) : List Nat := r.drop (m - x % m) ++ r.take (m - x % m)
def stepT (m x : Nat) : List Nat → List (List Nat) → List (List Nat)
  | p, c :: t => List.zipWith (· + ·) (rot m x p) c :: stepT m x c t
  | _, [] => []
def step (m x : Nat) : List (List Nat) → List (List Nat)
  | r :: t => r :: stepT m x r t
  | [] => []
def rowsF (m : Nat) (l : List Nat) : Nat → Nat → List (List Nat)
  | _, 0 => []
  | k, n + 1 => row m l k :: rowsF m l (k + 1) n
theorem row_zero (m : Nat) (l l' : List Nat) : row m l 0 = row m l' 0 := by
  unfold row; apply List.map_congr_left; intro r _; rw [cnt_zero, cnt_zero]
theorem row_step {m : Nat} (hm : 0 < m) (x : Nat) (l : List Nat) (k : Nat) : row m (x :: l) (k + 1) = List.zipWith (· + ·) (rot m x (row m l k)) (row m l (k + 1)) := by
  have hx := Nat.mod_lt x hm
  have hl : (row m l k).length = m := by simp [row]
  apply List.ext_getElem?
  intro r
  by_cases hr : r < m
  · have e1 : (row m (x :: l) (k + 1))[r]? = some (cnt m l k ((r + (m - x % m)) % m) + cnt m l (k + 1) r) := by simp [row, hr, cnt]
    have e2 : (row m l (k + 1))[r]? = some (cnt m l (k + 1) r) := by simp [row, hr]
    have e3 : (rot m x (row m l k))[r]? = some (cnt m l k ((r + (m - x % m)) % m)) := by
      unfold rot
      by_cases h : r < x % m
      · rw [List.getElem?_append_left (by rw [List.length_drop, hl]; omega), List.getElem?_drop]
        have : (r + (m - x % m)) % m = m - x % m + r := by rw [Nat.mod_eq_of_lt (by omega)]; omega
        rw [this]
        simp only [row, List.getElem?_map]
        rw [List.getElem?_range (by omega)]; rfl
      · rw [List.getElem?_append_right (by rw [List.length_drop, hl]; omega), List.length_drop, hl, List.getElem?_take, if_pos (by omega)]
        have : (r + (m - x % m)) % m = r - (m - (m - x % m)) := by
          rw [show r + (m - x % m) = (r - x % m) + m by omega, Nat.add_mod_right, Nat.mod_eq_of_lt (by omega)]; omega
        rw [this]
        simp only [row, List.getElem?_map]
        rw [List.getElem?_range (by omega)]; rfl
    rw [e1, List.getElem?_zipWith, e3, e2]
  · have e1 : (row m (x :: l) (k + 1))[r]? = none := by simp [row]; omega
    have e2 : (row m l (k + 1))[r]? = none := by simp [row]; omega
    rw [e1, List.getElem?_zipWith, e2]
    cases (rot m x (row m l k))[r]? <;> rfl
theorem stepT_rows {m : Nat} (hm : 0 < m) (x : Nat) (l : List Nat) : ∀ (n k : Nat), stepT m x (row m l k) (rowsF m l (k + 1) n) = rowsF m (x :: l) (k + 1) n
  | 0, k => rfl
  | n + 1, k => by
    simp only [rowsF, stepT]
    rw [stepT_rows hm x l n (k + 1), row_step hm]
/-- the table of all counts up to K loads -/
def tab (m : Nat) (l : List Nat) (K : Nat) : List (List Nat) := rowsF m l 0 (K + 1)
theorem step_tab {m : Nat} (hm : 0 < m) (x : Nat) (l : List Nat) (K : Nat) : step m x (tab m l K) = tab m (x :: l) K := by
  unfold tab
  simp only [rowsF, step]
  rw [Nat.zero_add, ← stepT_rows hm x l K 0, row_zero m (x :: l) l]
theorem rowsF_get (m : Nat) (l : List Nat) : ∀ (n k i : Nat), i < n → (rowsF m l k n).getD i [] = row m l (k + i)
  | n + 1, k, 0, _ => rfl
  | n + 1, k, i + 1, h => by
    simp only [rowsF, List.getD_cons_succ]
    rw [rowsF_get m l n (k + 1) i (by omega), show k + 1 + i = k + (i + 1) by omega]
/-- what the table says of lots -/
def lotsT (K : Nat) (t : List (List Nat)) : Nat := (t.getD K []).getD 0 0
theorem lotsT_tab {m : Nat} (hm : 0 < m) (l : List Nat) (K : Nat) : lotsT K (tab m l K) = cnt m l K 0 := by
  unfold lotsT tab
  rw [rowsF_get m l (K + 1) 0 K (by omega), Nat.zero_add]
  simp [row, List.getD_eq_getElem?_getD, hm]

def chk (m : Nat) (test : List Nat → List (List Nat) → Bool) : Nat → Nat → List Nat → List (List Nat) → Bool
  | 0, _, l, t => test l t
  | n + 1, a, l, t => (List.range (m - a)).all fun i => chk m test n (a + i) ((a + i) :: l) (step m (a + i) t)
theorem chk_sound {m : Nat} (hm : 0 < m) {test : List Nat → List (List Nat) → Bool} {K : Nat} : ∀ (n a : Nat) (l : List Nat), chk m test n a l (tab m l K) = true → ∀ e : List Nat, e.length = n → e.Pairwise (· ≤ ·) → (∀ x ∈ e, a ≤ x ∧ x < m) → test (e.reverse ++ l) (tab m (e.reverse ++ l) K) = true
  | 0, a, l, h, e, he, _, _ => by
    have := List.length_eq_zero_iff.1 he
    subst this; exact h
  | n + 1, a, l, h, e, he, hp, hb => by
    cases e with
    | nil => cases he
    | cons x e =>
      have hx := hb x (by simp)
      simp only [chk] at h
      have h1 := List.all_eq_true.1 h (x - a) (List.mem_range.2 (by omega))
      rw [show a + (x - a) = x by omega, step_tab hm] at h1
      have hp' := List.pairwise_cons.1 hp
      have := chk_sound hm n x (x :: l) h1 e (by simpa using he) hp'.2 (fun y hy => ⟨hp'.1 y hy, (hb y (by simp [hy])).2⟩)
      rwa [List.reverse_cons, List.append_assoc]
/-- numbers in ascending order -/
def sortN (l : List Nat) : List Nat := l.mergeSort
theorem sortN_perm (l : List Nat) : (sortN l).Perm l := List.mergeSort_perm l _
theorem sortN_rises (l : List Nat) : (sortN l).Pairwise (· ≤ ·) := by
  have := List.pairwise_mergeSort (le := fun x y : Nat => decide (x ≤ y)) (fun a b c h1 h2 => by simp at h1 h2 ⊢; omega) (fun a b => by simp; omega) l
  exact this.imp (by intro a b h; simpa using h)
theorem chk_res {m : Nat} (hm : 0 < m) {test : List Nat → List (List Nat) → Bool} {K n : Nat} (h : chk m test n 0 [] (tab m [] K) = true) (ρ : List Nat) (hl : ρ.length = n) (hb : ∀ x ∈ ρ, x < m) : ∃ e : List Nat, e.Perm ρ ∧ test e (tab m e K) = true := by
  have hp := sortN_perm ρ
  have := chk_sound hm n 0 [] h (sortN ρ) (by rw [hp.length_eq, hl]) (sortN_rises ρ) (fun x hx => ⟨Nat.zero_le _, hb x (hp.mem_iff.1 hx)⟩)
  rw [List.append_nil] at this
  exact ⟨_, (List.reverse_perm _).trans hp, this⟩

def testZ (n : Nat) (_ : List Nat) (t : List (List Nat)) : Bool := decide (0 < lotsT n t)
def testC (n : Nat) (_ : List Nat) (t : List (List Nat)) : Bool := lotsT n t % n == 1
/-- two numbers, half of the places each -/
def twoB (n : Nat) (l : List Nat) : Bool := match l with
  | [] => false
  | y :: _ => let x := l.getLastD 0; decide (x < y) && (l == List.replicate (n - 1) y ++ List.replicate (n - 1) x) && (Nat.gcd (y - x) n == 1)
def testT (n : Nat) (l : List Nat) (t : List (List Nat)) : Bool := decide (0 < lotsT n t) || twoB n l
def tab0 (m K : Nat) : List (List Nat) := ((List.range m).map fun r => if r % m = 0 then 1 else 0) :: List.replicate K (List.replicate m 0)
theorem tab0_eq (m K : Nat) : tab m [] K = tab0 m K := by
  unfold tab tab0
  have h : ∀ n k, rowsF m [] (k + 1) n = List.replicate n (List.replicate m 0) := by
    intro n
    induction n with
    | zero => intro k; rfl
    | succ n ih =>
      intro k
      simp only [rowsF, List.replicate_succ]
      rw [ih (k + 1)]
      have : row m [] (k + 1) = List.replicate m 0 := List.eq_replicate_iff.2 ⟨by simp [row], fun x hx => by
        obtain ⟨r, _, rfl⟩ := List.mem_map.1 hx
        rfl⟩
      rw [this]
  simp only [rowsF]
  rw [Nat.zero_add, h K 0]
  congr 1
theorem z_all : ∀ n, n ≤ 6 → 1 ≤ n → chk n (testZ n) (2 * n - 1) 0 [] (tab0 n n) = true := by decide +kernel
theorem c_all : ∀ n, n = 2 ∨ n = 3 ∨ n = 5 → chk n (testC n) (2 * n - 1) 0 [] (tab0 n n) = true := by
  rintro n (rfl | rfl | rfl) <;> decide +kernel
theorem t_all : ∀ n, n ≤ 6 → 2 ≤ n → chk n (testT n) (2 * n - 2) 0 [] (tab0 n n) = true := by decide +kernel
end R7

namespace R7

/-- all lots: lists of as many places as the stone has pounds, that weigh whole stones -/
def whole (n : Nat) (L : List Int) (k : Nat) : List (List Nat) := (combs L.length 0 k).filter fun l => wt L l % n == 0
theorem whole_count {n : Nat} (hn : 0 < n) (L : List Int) (k : Nat) : (whole n L k).length = cnt n (res n L) k 0 := count_combs hn L k 0 hn
theorem res_len (n : Nat) (L : List Int) : (res n L).length = L.length := by simp [res]
/-- ERDŐS, GINZBURG, ZIV: of 2n - 1 loads there is a lot -/
theorem ziv {n : Nat} (h1 : 1 ≤ n) (h6 : n ≤ 6) (L : List Int) (hL : L.length = 2 * n - 1) : 0 < (whole n L n).length := by
  have hz := z_all n h6 h1
  rw [← tab0_eq] at hz
  obtain ⟨e, hp, ht⟩ := chk_res (by omega) hz (res n L) (by rw [res_len, hL]) (res_lt (by omega) L)
  rw [whole_count (by omega), ← cnt_perm (by omega) hp, ← lotsT_tab (by omega)]
  simpa [testZ] using ht
/-- their number, if the stone is 2, 3 or 5 pounds -/
theorem ziv_count {n : Nat} (h : n = 2 ∨ n = 3 ∨ n = 5) (L : List Int) (hL : L.length = 2 * n - 1) : (whole n L n).length % n = 1 := by
  have hn : 0 < n := by omega
  have hz := c_all n h
  rw [← tab0_eq] at hz
  obtain ⟨e, hp, ht⟩ := chk_res hn hz (res n L) (by rw [res_len, hL]) (res_lt hn L)
  rw [whole_count hn, ← cnt_perm hn hp, ← lotsT_tab hn]
  simpa [testC] using ht
/-- of 2n - 2 loads without a lot half leave one number, the others another one -/
theorem two_halves {n : Nat} (h2 : 2 ≤ n) (h6 : n ≤ 6) (L : List Int) (hL : L.length = 2 * n - 2) (h0 : (whole n L n).length = 0) :
    ∃ x y : Nat, x < y ∧ y < n ∧ Nat.gcd (y - x) n = 1 ∧ (List.replicate (n - 1) y ++ List.replicate (n - 1) x).Perm (res n L) := by
  have hn : 0 < n := by omega
  have hz := t_all n h6 h2
  rw [← tab0_eq] at hz
  obtain ⟨e, hp, ht⟩ := chk_res hn hz (res n L) (by rw [res_len, hL]) (res_lt hn L)
  rw [whole_count hn, ← cnt_perm hn hp, ← lotsT_tab hn] at h0
  unfold testT at ht
  rw [h0] at ht
  simp only [Nat.lt_irrefl, decide_false, Bool.false_or] at ht
  unfold twoB at ht
  cases e with
  | nil => cases ht
  | cons y e =>
    simp only [Bool.and_eq_true, decide_eq_true_eq, beq_iff_eq] at ht
    obtain ⟨⟨a, b⟩, c⟩ := ht
    refine ⟨_, y, a, res_lt hn L y (hp.mem_iff.1 (by simp)), c, ?_⟩
    rw [← b]; exact hp
/-- a lot of the first ones is a lot of all -/
theorem whole_take {n : Nat} (L : List Int) (m : Nat) (h : m ≤ L.length) {l : List Nat} {k : Nat} (hl : l ∈ whole n (L.take m) k) : l ∈ whole n L k := by
  unfold whole at *
  rw [List.mem_filter] at *
  obtain ⟨h1, h2⟩ := hl
  obtain ⟨a, b, c⟩ := (mem_combs _ _ _ _).1 h1
  have hlen : (L.take m).length = m := by simp; omega
  have hw : wt (L.take m) l = wt L l := by
    unfold wt
    congr 1
    apply List.map_congr_left
    intro i hi
    have := c i hi
    rw [List.getD_eq_getElem?_getD, List.getD_eq_getElem?_getD, List.getElem?_take, if_pos (by omega)]
  rw [hw] at h2
  exact ⟨(mem_combs _ _ _ _).2 ⟨a, b, fun i hi => by have := c i hi; omega⟩, h2⟩
theorem ziv' {n : Nat} (h1 : 1 ≤ n) (h6 : n ≤ 6) (L : List Int) (hL : 2 * n - 1 ≤ L.length) : whole n L n ≠ [] := by
  have h := ziv h1 h6 (L.take (2 * n - 1)) (by simp; omega)
  obtain ⟨l, hl⟩ := List.exists_mem_of_length_pos h
  have := whole_take L (2 * n - 1) hL hl
  intro e; rw [e] at this; cases this

/-! ### rows -/
/-- what the loads up to some place leave -/
def pre (n : Nat) (L : List Int) (k : Nat) : Int := (L.take k).sum % n
theorem pre_nat {n : Nat} (hn : 0 < n) (L : List Int) (k : Nat) : ∃ r : Nat, r < n ∧ pre n L k = r := by
  have h1 := Int.emod_nonneg (L.take k).sum (show (n : Int) ≠ 0 by omega)
  have h2 := Int.emod_lt_of_pos (L.take k).sum (show (0 : Int) < n by omega)
  exact ⟨(pre n L k).toNat, by unfold pre; omega, by unfold pre; omega⟩
/-- more things than places: two at one place -/
theorem pigeon : ∀ (n : Nat) (f : Nat → Nat), (∀ i, i ≤ n → f i < n) → ∃ i j, i < j ∧ j ≤ n ∧ f i = f j
  | 0, f, h => absurd (h 0 (Nat.le_refl _)) (by omega)
  | n + 1, f, h => by
    by_cases hd : ∃ i, i ≤ n ∧ f i = f (n + 1)
    · obtain ⟨i, hi, he⟩ := hd
      exact ⟨i, n + 1, by omega, Nat.le_refl _, he⟩
    · -- the last one's place is left out
      let g : Nat → Nat := fun i => if f i < f (n + 1) then f i else f i - 1
      have hne : ∀ i, i ≤ n → f i ≠ f (n + 1) := fun i hi e => hd ⟨i, hi, e⟩
      have hl := h (n + 1) (Nat.le_refl _)
      obtain ⟨i, j, hij, hj, he⟩ := pigeon n g fun i hi => by
        have h1 := h i (by omega)
        have h2 := hne i hi
        show (if f i < f (n + 1) then f i else f i - 1) < n
        split <;> omega
      refine ⟨i, j, hij, by omega, ?_⟩
      have h1 := hne i (by omega)
      have h2 := hne j hj
      have he' : (if f i < f (n + 1) then f i else f i - 1) = (if f j < f (n + 1) then f j else f j - 1) := he
      split at he' <;> split at he' <;> omega
/-- of as many loads as a stone has pounds some that follow one another weigh whole stones -/
theorem some_row {n : Nat} (hn : 0 < n) (L : List Int) (h : n ≤ L.length) : ∃ i j, i < j ∧ j ≤ n ∧ ((L.drop i).take (j - i)).sum % n = 0 := by
  obtain ⟨f, hf⟩ : ∃ f : Nat → Nat, ∀ k, f k < n ∧ pre n L k = f k := ⟨fun k => (pre_nat hn L k).choose, fun k => (pre_nat hn L k).choose_spec⟩
  obtain ⟨i, j, hij, hj, he⟩ := pigeon n f fun i _ => (hf i).1
  refine ⟨i, j, hij, hj, ?_⟩
  have hs : (L.take j).sum = (L.take i).sum + ((L.drop i).take (j - i)).sum := by
    rw [← List.sum_append]
    congr 1
    rw [show j = i + (j - i) by omega, List.take_add]
    simp
  have hp : pre n L i = pre n L j := by rw [(hf i).2, (hf j).2, he]
  unfold pre at hp
  rw [hs] at hp
  have h2 : (((L.take i).sum + ((L.drop i).take (j - i)).sum) - (L.take i).sum) % n = 0 := by
    rw [Int.sub_emod, ← hp, Int.sub_self]; rfl
  rwa [show (L.take i).sum + ((L.drop i).take (j - i)).sum - (L.take i).sum = ((L.drop i).take (j - i)).sum by omega] at h2
end R7
