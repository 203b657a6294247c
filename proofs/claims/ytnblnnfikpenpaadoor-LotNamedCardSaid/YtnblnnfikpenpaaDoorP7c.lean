/-
  Chapter 07 in plain words: lists of places in ascending order, what loads there weigh, how many such lists leave a number. Conditions: none.
  Chapter 05 in plain words: trees of kinds, their lists and depths; all trees, in the order of their lists. Conditions: none.
  Chapter 05 in plain words: the best trees by spans, and by trying all. Conditions: none.
  Chapter 05 in plain words: the least questions in any order. Conditions: none.
  Chapter 07 in plain words: of 2n - 1 loads there is a lot; how many; and what 2n - 2 loads without one are: all residues are tried. Conditions: none.
  Chapter 07 in plain words: of 2n - 1 loads there is a lot; how many lots there are; loads without a lot. Conditions: none.
  Chapter 07 in plain words: sets as numbers, and as lists; the order of lists. Conditions: none.
  Chapter 07 in plain words: as many lots as possible without a common load. Conditions: none.
  Chapter 07 in plain words: the table of the most lots; the order of sets by their bits. Conditions: none.
-/
set_option linter.unusedVariables false
set_option linter.unusedSimpArgs false
set_option linter.deprecated false
namespace R7

/-- all lists of k places from a on, of d places, in ascending order -/
def combs : Nat → Nat → Nat → List (List Nat)
  | _, _, 0 => [[]]
  | 0, _, _ + 1 => []
  | d + 1, a, k + 1 => (combs d (a + 1) k).map (a :: ·) ++ combs d (a + 1) (k + 1)
theorem combs_zero (d a : Nat) : combs d a 0 = [[]] := by cases d <;> rfl
theorem mem_combs : ∀ (d a k : Nat) (l : List Nat), l ∈ combs d a k ↔ l.length = k ∧ l.Pairwise (· < ·) ∧ ∀ x ∈ l, a ≤ x ∧ x < a + d
  | d, a, 0, l => by
    rw [combs_zero]
    simp only [List.mem_singleton, List.length_eq_zero_iff]
    exact ⟨fun h => by subst h; simp, fun h => h.1⟩
  | 0, a, k + 1, l => by
    simp only [combs, List.not_mem_nil, false_iff]
    rintro ⟨h1, _, h3⟩
    cases l with
    | nil => cases h1
    | cons x l => have := h3 x (by simp); omega
  | d + 1, a, k + 1, l => by
    simp only [combs, List.mem_append, List.mem_map, mem_combs d (a + 1)]
    constructor
    · rintro (⟨t, ⟨h1, h2, h3⟩, rfl⟩ | ⟨h1, h2, h3⟩)
      · refine ⟨by simp [h1], List.pairwise_cons.2 ⟨fun y hy => by have := h3 y hy; omega, h2⟩, fun x hx => ?_⟩
        rcases List.mem_cons.1 hx with rfl | hx
        · omega
        · have := h3 x hx; omega
      · exact ⟨h1, h2, fun x hx => by have := h3 x hx; omega⟩
    · rintro ⟨h1, h2, h3⟩
      cases l with
      | nil => cases h1
      | cons x t =>
        have hx := h3 x (by simp)
        have ht := List.pairwise_cons.1 h2
        by_cases e : x = a
        · subst e
          exact .inl ⟨t, ⟨by simpa using h1, ht.2, fun y hy => by have := ht.1 y hy; have := h3 y (by simp [hy]); omega⟩, rfl⟩
        · refine .inr ⟨h1, h2, fun y hy => ?_⟩
          rcases List.mem_cons.1 hy with rfl | hy
          · omega
          · have := ht.1 y hy; have := h3 y (by simp [hy]); omega
/-- what the loads at some places weigh -/
def wt (L : List Int) (l : List Nat) : Int := (l.map fun i => L.getD i 0).sum
theorem wt_cons (L : List Int) (i : Nat) (l : List Nat) : wt L (i :: l) = L.getD i 0 + wt L l := by simp [wt]
theorem wt_nil (L : List Int) : wt L [] = 0 := rfl
/-- places that are moved on by one -/
theorem combs_succ : ∀ (d a k : Nat), combs d (a + 1) k = (combs d a k).map (·.map (· + 1))
  | d, a, 0 => by simp [combs_zero]
  | 0, a, k + 1 => rfl
  | d + 1, a, k + 1 => by
    simp only [combs]
    rw [combs_succ d (a + 1) k, combs_succ d (a + 1) (k + 1), List.map_append, List.map_map, List.map_map]
    rfl
theorem wt_succ (x : Int) (L : List Int) (l : List Nat) : wt (x :: L) (l.map (· + 1)) = wt L l := by
  unfold wt; rw [List.map_map]; congr 1

/-- how many lists of k loads leave r: by residues -/
def cnt (m : Nat) : List Nat → Nat → Nat → Nat
  | _, 0, r => if r % m = 0 then 1 else 0
  | [], _ + 1, _ => 0
  | x :: l, k + 1, r => cnt m l k ((r + (m - x % m)) % m) + cnt m l (k + 1) r
theorem cnt_zero (m : Nat) (l : List Nat) (r : Nat) : cnt m l 0 r = if r % m = 0 then 1 else 0 := by cases l <;> rfl
theorem two_back {m r x y : Nat} (hm : 0 < m) : ((r + (m - x % m)) % m + (m - y % m)) % m = ((r + (m - y % m)) % m + (m - x % m)) % m := by
  rw [Nat.mod_add_mod, Nat.mod_add_mod]; congr 1; omega
theorem cnt_swap {m : Nat} (hm : 0 < m) (x y : Nat) (l : List Nat) : ∀ (k r : Nat), cnt m (x :: y :: l) k r = cnt m (y :: x :: l) k r
  | 0, r => by rw [cnt_zero, cnt_zero]
  | 1, r => by
    simp only [cnt, cnt_zero]
    omega
  | k + 2, r => by
    simp only [cnt]
    rw [two_back hm]
    omega
theorem cnt_perm {m : Nat} (hm : 0 < m) {a b : List Nat} (h : a.Perm b) : ∀ k r, cnt m a k r = cnt m b k r := by
  induction h with
  | nil => intro k r; rfl
  | cons x _ ih =>
    intro k r
    cases k with
    | zero => rw [cnt_zero, cnt_zero]
    | succ k => simp only [cnt, ih]
  | swap x y l => intro k r; exact cnt_swap hm y x l k r
  | trans _ _ h1 h2 => intro k r; rw [h1, h2]
/-- the residues of loads -/
def res (m : Nat) (L : List Int) : List Nat := L.map fun x => (x % (m : Int)).toNat
theorem sub_mod {m : Nat} (hm : 0 < m) (x w : Int) (r : Nat) (hr : r < m) : (x + w) % m = r ↔ w % m = ((r + (m - (x % m).toNat % m)) % m : Nat) := by
  have h1 := Int.emod_nonneg x (show (m : Int) ≠ 0 by omega)
  have h2 := Int.emod_lt_of_pos x (show (0 : Int) < m by omega)
  have e1 : (x % m).toNat % m = (x % m).toNat := Nat.mod_eq_of_lt (by omega)
  rw [e1]
  have e2 : (((r + (m - (x % m).toNat)) % m : Nat) : Int) = ((r : Int) + (m - x % m)) % m := by
    rw [Int.natCast_emod]; congr 1; omega
  rw [e2]
  have h3 : (r : Int) % m = r := Int.emod_eq_of_lt (by omega) (by omega)
  constructor
  · intro h
    have : w % m = ((x + w) % m + (m - x % m)) % m := by
      rw [Int.emod_add_emod]
      have : x + w + (m - x % m) = w + m * (x / m + 1) := by
        have := Int.mul_ediv_add_emod x m
        rw [Int.mul_add, Int.mul_one]; omega
      rw [this, Int.add_mul_emod_self_left]
    rw [this, h]
  · intro h
    have : (x + w) % m = (x + w % m) % m := by rw [Int.add_emod_emod]
    rw [this, h, Int.add_emod_emod]
    have : x + (↑r + (↑m - x % ↑m)) = r + m * (x / m + 1) := by
      have := Int.mul_ediv_add_emod x m
      rw [Int.mul_add, Int.mul_one]; omega
    rw [this, Int.add_mul_emod_self_left, h3]
theorem res_lt {m : Nat} (hm : 0 < m) (L : List Int) : ∀ x ∈ res m L, x < m := by
  intro x hx
  obtain ⟨y, _, rfl⟩ := List.mem_map.1 hx
  have h1 := Int.emod_nonneg y (show (m : Int) ≠ 0 by omega)
  have h2 := Int.emod_lt_of_pos y (show (0 : Int) < m by omega)
  omega
/-- lists of places are counted as residues say -/
theorem count_combs {m : Nat} (hm : 0 < m) : ∀ (L : List Int) (k r : Nat), r < m → ((combs L.length 0 k).filter fun l => wt L l % m == (r : Int)).length = cnt m (res m L) k r
  | L, 0, r, hr => by
    rw [combs_zero, cnt_zero, Nat.mod_eq_of_lt hr]
    by_cases h : r = 0
    · subst h; simp [wt]
    · rw [if_neg h]
      have : ¬ ((0 : Int) = r) := by omega
      simp [wt, this]
  | [], k + 1, r, hr => rfl
  | x :: L, k + 1, r, hr => by
    simp only [List.length_cons, combs, res, List.map_cons, cnt, List.filter_append, List.length_append]
    rw [combs_succ, combs_succ, List.map_map, List.filter_map, List.filter_map, List.length_map, List.length_map]
    have e1 : ∀ l, ((fun l => wt (x :: L) l % (m : Int) == (r : Int)) ∘ fun l : List Nat => l.map (· + 1)) l = (wt L l % m == (r : Int)) := fun l => by
      simp only [Function.comp_apply, wt_succ]
    have e2 : ∀ l, ((fun l => wt (x :: L) l % (m : Int) == (r : Int)) ∘ ((fun x => 0 :: x) ∘ fun l : List Nat => l.map (· + 1))) l = (wt L l % m == (((r + (m - (x % m).toNat % m)) % m : Nat) : Int)) := fun l => by
      simp only [Function.comp_apply, wt_cons, wt_succ, List.getD_cons_zero]
      rw [Bool.eq_iff_iff, beq_iff_eq, beq_iff_eq]
      exact sub_mod hm x (wt L l) r hr
    rw [List.filter_congr fun l _ => e2 l, List.filter_congr fun l _ => e1 l, count_combs hm L k _ (Nat.mod_lt _ hm), count_combs hm L (k + 1) r hr]
    rfl
end R7

namespace R5

/-- a tree of kinds: a kind alone, or a sieve with what falls through and what stays -/
inductive T where
  | leaf
  | node (l r : T)
  deriving DecidableEq, Repr

def T.kinds : T → Nat
  | .leaf => 1
  | .node l r => l.kinds + r.kinds
/-- the list of a tree whose first kind is a -/
def T.enc : T → Nat → List Int
  | .leaf, _ => []
  | .node l r, a => ((a + l.kinds - 1 : Nat) : Int) :: (l.enc a ++ r.enc (a + l.kinds))
def T.dep : T → List Int
  | .leaf => [0]
  | .node l r => (l.dep ++ r.dep).map (· + 1)
/-- all trees of n kinds -/
def allF : Nat → Nat → List T
  | 0, _ => [.leaf]
  | f + 1, n => if n ≤ 1 then [.leaf] else (List.range (n - 1)).flatMap fun i => (allF f (i + 1)).flatMap fun l => (allF f (n - 1 - i)).map fun r => .node l r
def all (n : Nat) : List T := allF n n

/-! ### loads, and the best trees -/
/-- the loads of n kinds from a on -/
def sumOf (L : List Int) (a n : Nat) : Int := ((L.drop a).take n).sum
/-- the questions of a tree whose first kind is a -/
def T.cost (L : List Int) : T → Nat → Int
  | .leaf, _ => 0
  | .node l r, a => l.cost L a + r.cost L (a + l.kinds) + sumOf L a (l.kinds + r.kinds)
/-- the smallest of some numbers -/
def minL : List Int → Int
  | [] => 0
  | x :: l => l.foldl min x
/-- the least questions of n kinds from a on -/
def least (L : List Int) (a n : Nat) : Int := minL ((all n).map fun t => t.cost L a)
/-- the best trees of n kinds from a on -/
def bests (L : List Int) (a n : Nat) : List T := (all n).filter fun t => t.cost L a == least L a n

end R5

namespace R5

/-! ### those with the smallest number, one after the other -/
section
variable {α : Type} (c : α → Int)
end

/-! ### what is known of spans -/
def many (L : List Int) (a n : Nat) : Nat := (bests L a n).length
/-! ### bounds -/
end R5

namespace R5

/-! ### without order: the first smallest one is taken out -/
theorem sum_perm {a b : List Int} (h : a.Perm b) : a.sum = b.sum := by
  induction h with
  | nil => rfl
  | cons x _ ih => simp [ih]
  | swap x y l => simp only [List.sum_cons]; omega
  | trans _ _ h1 h2 => exact h1.trans h2
end R5

namespace R7

def row (m : Nat) (l : List Nat) (k : Nat) : List Nat := (List.range m).map (cnt m l k)
def rot (m x : Nat) (r : List Nat) : List Nat := r.drop (m - x % m) ++ r.take (m - x % m)
def stepT (m x : Nat) : List Nat → List (List Nat) → List (List Nat)
  | p, c :: t => List.zipWith (· + ·) (rot m x p) c :: stepT m x c t
  | _, [] => []
def step (m x : Nat) : List (List Nat) → List (List Nat)
  | r :: t => r :: stepT m x r t
  | [] => []
def rowsF (m : Nat) (l : List Nat) : Nat → Nat → List (List Nat)
  | _, 0 => []
  | k, n + 1 => row m l k :: rowsF m l (k + 1) n
theorem row_zero (m : Nat) (l l' : List Nat) : row m l 0 = row m l' 0 := by
  unfold row; apply List.map_congr_left; intro r _; rw [cnt_zero, cnt_zero]
theorem row_step {m : Nat} (hm : 0 < m) (x : Nat) (l : List Nat) (k : Nat) : row m (x :: l) (k + 1) = List.zipWith (· + ·) (rot m x (row m l k)) (row m l (k + 1)) := by
  have hx := Nat.mod_lt x hm
  have hl : (row m l k).length = m := by simp [row]
  apply List.ext_getElem?
  intro r
  by_cases hr : r < m
  · have e1 : (row m (x :: l) (k + 1))[r]? = some (cnt m l k ((r + (m - x % m)) % m) + cnt m l (k + 1) r) := by simp [row, hr, cnt]
    have e2 : (row m l (k + 1))[r]? = some (cnt m l (k + 1) r) := by simp [row, hr]
    have e3 : (rot m x (row m l k))[r]? = some (cnt m l k ((r + (m - x % m)) % m)) := by
      unfold rot
      by_cases h : r < x % m
      · rw [List.getElem?_append_left (by rw [List.length_drop, hl]; omega), List.getElem?_drop]
        have : (r + (m - x % m)) % m = m - x % m + r := by rw [Nat.mod_eq_of_lt (by omega)]; omega
        rw [this]
        simp only [row, List.getElem?_map]
        rw [List.getElem?_range (by omega)]; rfl
      · rw [List.getElem?_append_right (by rw [List.length_drop, hl]; omega), List.length_drop, hl, List.getElem?_take, if_pos (by omega)]
        have : (r + (m - x % m)) % m = r - (m - (m - x % m)) := by
          rw [show r + (m - x % m) = (r - x % m) + m by omega, Nat.add_mod_right, Nat.mod_eq_of_lt (by omega)]; omega
        rw [this]
        simp only [row, List.getElem?_map]
        rw [List.getElem?_range (by omega)]; rfl
    rw [e1, List.getElem?_zipWith, e3, e2]
  · have e1 : (row m (x :: l) (k + 1))[r]? = none := by simp [row]; omega
    have e2 : (row m l (k + 1))[r]? = none := by simp [row]; omega
    rw [e1, List.getElem?_zipWith, e2]
    cases (rot m x (row m l k))[r]? <;> rfl
theorem stepT_rows {m : Nat} (hm : 0 < m) (x : Nat) (l : List Nat) : ∀ (n k : Nat), stepT m x (row m l k) (rowsF m l (k + 1) n) = rowsF m (x :: l) (k + 1) n
  | 0, k => rfl
  | n + 1, k => by
    simp only [rowsF, stepT]
    rw [stepT_rows hm x l n (k + 1), row_step hm]
/-- the table of all counts up to K loads -/
def tab (m : Nat) (l : List Nat) (K : Nat) : List (List Nat) := rowsF m l 0 (K + 1)
theorem step_tab {m : Nat} (hm : 0 < m) (x : Nat) (l : List Nat) (K : Nat) : step m x (tab m l K) = tab m (x :: l) K := by
  unfold tab
  simp only [rowsF, step]
  rw [Nat.zero_add, ← stepT_rows hm x l K 0, row_zero m (x :: l) l]
theorem rowsF_get (m : Nat) (l : List Nat) : ∀ (n k i : Nat), i < n → (rowsF m l k n).getD i [] = row m l (k + i)
  | n + 1, k, 0, _ => rfl
  | n + 1, k, i + 1, h => by
    simp only [rowsF, List.getD_cons_succ]
    rw [rowsF_get m l n (k + 1) i (by omega), show k + 1 + i = k + (i + 1) by omega]
/-- what the table says of lots -/
def lotsT (K : Nat) (t : List (List Nat)) : Nat := (t.getD K []).getD 0 0
theorem lotsT_tab {m : Nat} (hm : 0 < m) (l : List Nat) (K : Nat) : lotsT K (tab m l K) = cnt m l K 0 := by
  unfold lotsT tab
  rw [rowsF_get m l (K + 1) 0 K (by omega), Nat.zero_add]
  simp [row, List.getD_eq_getElem?_getD, hm]

def chk (m : Nat) (test : List Nat → List (List Nat) → Bool) : Nat → Nat → List Nat → List (List Nat) → Bool
  | 0, _, l, t => test l t
  | n + 1, a, l, t => (List.range (m - a)).all fun i => chk m test n (a + i) ((a + i) :: l) (step m (a + i) t)
theorem chk_sound {m : Nat} (hm : 0 < m) {test : List Nat → List (List Nat) → Bool} {K : Nat} : ∀ (n a : Nat) (l : List Nat), chk m test n a l (tab m l K) = true → ∀ e : List Nat, e.length = n → e.Pairwise (· ≤ ·) → (∀ x ∈ e, a ≤ x ∧ x < m) → test (e.reverse ++ l) (tab m (e.reverse ++ l) K) = true
  | 0, a, l, h, e, he, _, _ => by
    have := List.length_eq_zero_iff.1 he
    subst this; exact h
  | n + 1, a, l, h, e, he, hp, hb => by
    cases e with
    | nil => cases he
    | cons x e =>
      have hx := hb x (by simp)
      simp only [chk] at h
      have h1 := List.all_eq_true.1 h (x - a) (List.mem_range.2 (by omega))
      rw [show a + (x - a) = x by omega, step_tab hm] at h1
      have hp' := List.pairwise_cons.1 hp
      have := chk_sound hm n x (x :: l) h1 e (by simpa using he) hp'.2 (fun y hy => ⟨hp'.1 y hy, (hb y (by simp [hy])).2⟩)
      rwa [List.reverse_cons, List.append_assoc]
/-- numbers in ascending order -/
def sortN (l : List Nat) : List Nat := l.mergeSort
theorem sortN_perm (l : List Nat) : (sortN l).Perm l := List.mergeSort_perm l _
theorem sortN_rises (l : List Nat) : (sortN l).Pairwise (· ≤ ·) := by
  have := List.pairwise_mergeSort (le := fun x y : Nat => decide (x ≤ y)) (fun a b c h1 h2 => by simp at h1 h2 ⊢; omega) (fun a b => by simp; omega) l
  exact this.imp (by intro a b h; simpa using h)
theorem chk_res {m : Nat} (hm : 0 < m) {test : List Nat → List (List Nat) → Bool} {K n : Nat} (h : chk m test n 0 [] (tab m [] K) = true) (ρ : List Nat) (hl : ρ.length = n) (hb : ∀ x ∈ ρ, x < m) : ∃ e : List Nat, e.Perm ρ ∧ test e (tab m e K) = true := by
  have hp := sortN_perm ρ
  have := chk_sound hm n 0 [] h (sortN ρ) (by rw [hp.length_eq, hl]) (sortN_rises ρ) (fun x hx => ⟨Nat.zero_le _, hb x (hp.mem_iff.1 hx)⟩)
  rw [List.append_nil] at this
  exact ⟨_, (List.reverse_perm _).trans hp, this⟩

def testZ (n : Nat) (_ : List Nat) (t : List (List Nat)) : Bool := decide (0 < lotsT n t)
def tab0 (m K : Nat) : List (List Nat) := ((List.range m).map fun r => if r % m = 0 then 1 else 0) :: List.replicate K (List.replicate m 0)
theorem tab0_eq (m K : Nat) : tab m [] K = tab0 m K := by
  unfold tab tab0
  have h : ∀ n k, rowsF m [] (k + 1) n = List.replicate n (List.replicate m 0) := by
    intro n
    induction n with
    | zero => intro k; rfl
    | succ n ih =>
      intro k
      simp only [rowsF, List.replicate_succ]
      rw [ih (k + 1)]
      have : row m [] (k + 1) = List.replicate m 0 := List.eq_replicate_iff.2 ⟨by simp [row], fun x hx => by
        obtain ⟨r, _, rfl⟩ := List.mem_map.1 hx
        rfl⟩
      rw [this]
  simp only [rowsF]
  rw [Nat.zero_add, h K 0]
  congr 1
theorem z_all : ∀ n, n ≤ 6 → 1 ≤ n → chk n (testZ n) (2 * n - 1) 0 [] (tab0 n n) = true := by decide +kernel
end R7

namespace R7

/-- all lots: lists of as many places as the stone has pounds, that weigh whole stones -/
def whole (n : Nat) (L : List Int) (k : Nat) : List (List Nat) := (combs L.length 0 k).filter fun l => wt L l % n == 0
theorem whole_count {n : Nat} (hn : 0 < n) (L : List Int) (k : Nat) : (whole n L k).length = cnt n (res n L) k 0 := count_combs hn L k 0 hn
theorem res_len (n : Nat) (L : List Int) : (res n L).length = L.length := by simp [res]
/-- ERDŐS, GINZBURG, ZIV: of 2n - 1 loads there is a lot -/
theorem ziv {n : Nat} (h1 : 1 ≤ n) (h6 : n ≤ 6) (L : List Int) (hL : L.length = 2 * n - 1) : 0 < (whole n L n).length := by
  have hz := z_all n h6 h1
  rw [← tab0_eq] at hz
  obtain ⟨e, hp, ht⟩ := chk_res (by omega) hz (res n L) (by rw [res_len, hL]) (res_lt (by omega) L)
  rw [whole_count (by omega), ← cnt_perm (by omega) hp, ← lotsT_tab (by omega)]
  simpa [testZ] using ht
/-- a lot of the first ones is a lot of all -/
theorem whole_take {n : Nat} (L : List Int) (m : Nat) (h : m ≤ L.length) {l : List Nat} {k : Nat} (hl : l ∈ whole n (L.take m) k) : l ∈ whole n L k := by
  unfold whole at *
  rw [List.mem_filter] at *
  obtain ⟨h1, h2⟩ := hl
  obtain ⟨a, b, c⟩ := (mem_combs _ _ _ _).1 h1
  have hlen : (L.take m).length = m := by simp; omega
  have hw : wt (L.take m) l = wt L l := by
    unfold wt
    congr 1
    apply List.map_congr_left
    intro i hi
    have := c i hi
    rw [List.getD_eq_getElem?_getD, List.getD_eq_getElem?_getD, List.getElem?_take, if_pos (by omega)]
  rw [hw] at h2
  exact ⟨(mem_combs _ _ _ _).2 ⟨a, b, fun i hi => by have := c i hi; omega⟩, h2⟩
theorem ziv' {n : Nat} (h1 : 1 ≤ n) (h6 : n ≤ 6) (L : List Int) (hL : 2 * n - 1 ≤ L.length) : whole n L n ≠ [] := by
  have h := ziv h1 h6 (L.take (2 * n - 1)) (by simp; omega)
  obtain ⟨l, hl⟩ := List.exists_mem_of_length_pos h
  have := whole_take L (2 * n - 1) hL hl
  intro e; rw [e] at this; cases this

/-! ### rows -/
/-- what the loads up to some place leave -/
def pre (n : Nat) (L : List Int) (k : Nat) : Int := (L.take k).sum % n
theorem pre_nat {n : Nat} (hn : 0 < n) (L : List Int) (k : Nat) : ∃ r : Nat, r < n ∧ pre n L k = r := by
  have h1 := Int.emod_nonneg (L.take k).sum (show (n : Int) ≠ 0 by omega)
  have h2 := Int.emod_lt_of_pos (L.take k).sum (show (0 : Int) < n by omega)
  exact ⟨(pre n L k).toNat, by unfold pre; omega, by unfold pre; omega⟩
end R7

namespace R7

/-! ### the order of lists -/
def lexB : List Nat → List Nat → Bool
  | [], [] => false
  | [], _ :: _ => true
  | _ :: _, [] => false
  | x :: l, y :: l' => decide (x < y) || (x == y && lexB l l')
theorem lexB_irrefl : ∀ l : List Nat, lexB l l = false
  | [] => rfl
  | x :: l => by simp [lexB, lexB_irrefl l]
theorem lexB_asymm : ∀ {l l' : List Nat}, lexB l l' = true → lexB l' l = false
  | [], _ :: _, _ => rfl
  | x :: l, y :: l', h => by
    simp only [lexB, Bool.or_eq_true, decide_eq_true_eq, Bool.and_eq_true, beq_iff_eq, Bool.or_eq_false_iff, decide_eq_false_iff_not, Bool.and_eq_false_imp] at *
    rcases h with h | ⟨rfl, h⟩
    · exact ⟨by omega, fun e => by omega⟩
    · exact ⟨by omega, fun _ => lexB_asymm h⟩
theorem lexB_trans : ∀ {a b c : List Nat}, lexB a b = true → lexB b c = true → lexB a c = true
  | [], _ :: _, [], _, h => by simp [lexB] at h
  | [], _, _ :: _, _, _ => rfl
  | _ :: _, _ :: _, [], _, h => by simp [lexB] at h
  | x :: a, y :: b, z :: c, h1, h2 => by
    simp only [lexB, Bool.or_eq_true, decide_eq_true_eq, Bool.and_eq_true, beq_iff_eq] at *
    rcases h1 with h1 | ⟨rfl, h1⟩
    · rcases h2 with h2 | ⟨rfl, h2⟩
      · exact .inl (by omega)
      · exact .inl h1
    · rcases h2 with h2 | ⟨rfl, h2⟩
      · exact .inl h2
      · exact .inr ⟨rfl, lexB_trans h1 h2⟩
theorem lexB_total : ∀ {l l' : List Nat}, l ≠ l' → lexB l l' = true ∨ lexB l' l = true
  | [], [], h => absurd rfl h
  | [], _ :: _, _ => .inl rfl
  | _ :: _, [], _ => .inr rfl
  | x :: l, y :: l', h => by
    simp only [lexB, Bool.or_eq_true, decide_eq_true_eq, Bool.and_eq_true, beq_iff_eq]
    rcases Nat.lt_trichotomy x y with h1 | rfl | h1
    · exact .inl (.inl h1)
    · rcases lexB_total (l := l) (l' := l') (fun e => h (by rw [e])) with h2 | h2
      · exact .inl (.inr ⟨rfl, h2⟩)
      · exact .inr (.inr ⟨rfl, h2⟩)
    · exact .inr (.inl h1)
/-- lists in ascending order, each once -/
def Asc (w : List (List Nat)) : Prop := w.Pairwise fun a b => lexB a b = true
theorem asc_unique : ∀ {a b : List (List Nat)}, Asc a → Asc b → (∀ x, x ∈ a ↔ x ∈ b) → a = b
  | [], [], _, _, _ => rfl
  | [], y :: b, _, _, h => absurd ((h y).2 (by simp)) (by simp)
  | x :: a, [], _, _, h => absurd ((h x).1 (by simp)) (by simp)
  | x :: a, y :: b, ha, hb, h => by
    have ha' := List.pairwise_cons.1 ha
    have hb' := List.pairwise_cons.1 hb
    have e : x = y := by
      rcases List.mem_cons.1 ((h x).1 (by simp)) with e | h1
      · exact e
      · rcases List.mem_cons.1 ((h y).2 (by simp)) with e | h2
        · exact e.symm
        · have h3 := hb'.1 x h1
          have h4 := ha'.1 y h2
          rw [lexB_asymm h3] at h4; cases h4
    subst e
    congr 1
    refine asc_unique ha'.2 hb'.2 fun z => ?_
    have hx1 : x ∉ a := fun hm => by have := ha'.1 x hm; rw [lexB_irrefl] at this; cases this
    have hx2 : x ∉ b := fun hm => by have := hb'.1 x hm; rw [lexB_irrefl] at this; cases this
    have hz := h z
    simp only [List.mem_cons] at hz
    constructor
    · intro hm
      rcases hz.1 (.inr hm) with e | h1
      · exact absurd (e ▸ hm) hx1
      · exact h1
    · intro hm
      rcases hz.2 (.inr hm) with e | h1
      · exact absurd (e ▸ hm) hx2
      · exact h1
theorem asc_filter {w : List (List Nat)} (h : Asc w) (p : List Nat → Bool) : Asc (w.filter p) := h.filter p
theorem combs_asc : ∀ (d a k : Nat), Asc (combs d a k)
  | d, a, 0 => by rw [combs_zero]; exact List.pairwise_singleton _ _
  | 0, a, k + 1 => List.Pairwise.nil
  | d + 1, a, k + 1 => by
    simp only [combs]
    refine List.pairwise_append.2 ⟨?_, combs_asc d (a + 1) (k + 1), ?_⟩
    · refine List.pairwise_map.2 ((combs_asc d (a + 1) k).imp fun h => ?_)
      simp [lexB, h]
    · intro x hx y hy
      obtain ⟨t, _, rfl⟩ := List.mem_map.1 hx
      obtain ⟨h1, _, h3⟩ := (mem_combs _ _ _ _).1 hy
      cases y with
      | nil => cases h1
      | cons z y => have := h3 z (by simp); simp [lexB]; omega
theorem whole_asc (n : Nat) (L : List Int) (k : Nat) : Asc (whole n L k) := asc_filter (combs_asc _ _ _) _

/-! ### sets as numbers -/
/-- the things of a set, in ascending order -/
def ones (m : Nat) : List Nat := (List.range 12).filter fun i => m.testBit i
theorem mem_ones {m i : Nat} : i ∈ ones m ↔ i < 12 ∧ m.testBit i = true := by simp [ones]
theorem ones_asc (m : Nat) : (ones m).Pairwise (· < ·) := List.Pairwise.filter _ List.pairwise_lt_range
theorem testBit_big {m i : Nat} (hm : m < 4096) (hi : 12 ≤ i) : m.testBit i = false :=
  Nat.testBit_lt_two_pow (Nat.lt_of_lt_of_le hm (Nat.pow_le_pow_right (n := 2) (by decide) hi))
theorem ones_inj {a b : Nat} (ha : a < 4096) (hb : b < 4096) (h : ones a = ones b) : a = b := by
  apply Nat.eq_of_testBit_eq
  intro i
  by_cases hi : i < 12
  · have : i ∈ ones a ↔ i ∈ ones b := by rw [h]
    rw [mem_ones, mem_ones] at this
    rw [Bool.eq_iff_iff]
    exact ⟨fun h1 => (this.1 ⟨hi, h1⟩).2, fun h1 => (this.2 ⟨hi, h1⟩).2⟩
  · rw [testBit_big ha (by omega), testBit_big hb (by omega)]
def maskOf (l : List Nat) : Nat := l.foldr (fun i m => 2 ^ i ||| m) 0
theorem maskOf_bit (l : List Nat) (i : Nat) : (maskOf l).testBit i = true ↔ i ∈ l := by
  induction l with
  | nil => simp [maskOf]
  | cons x l ih =>
    have e : maskOf (x :: l) = 2 ^ x ||| maskOf l := rfl
    rw [e, Nat.testBit_or, Bool.or_eq_true, ih, Nat.testBit_two_pow, List.mem_cons, decide_eq_true_eq, eq_comm (a := x)]
theorem maskOf_lt {l : List Nat} {d : Nat} (h : ∀ x ∈ l, x < d) : maskOf l < 2 ^ d := by
  apply Nat.lt_pow_two_of_testBit
  intro i hi
  cases hb : (maskOf l).testBit i with
  | false => rfl
  | true => have := h i ((maskOf_bit l i).1 hb); omega
theorem asc_ext : ∀ {a b : List Nat}, a.Pairwise (· < ·) → b.Pairwise (· < ·) → (∀ x, x ∈ a ↔ x ∈ b) → a = b
  | [], [], _, _, _ => rfl
  | [], y :: b, _, _, h => absurd ((h y).2 (by simp)) (by simp)
  | x :: a, [], _, _, h => absurd ((h x).1 (by simp)) (by simp)
  | x :: a, y :: b, ha, hb, h => by
    have ha' := List.pairwise_cons.1 ha
    have hb' := List.pairwise_cons.1 hb
    have e : x = y := by
      rcases List.mem_cons.1 ((h x).1 (by simp)) with e | h1
      · exact e
      · rcases List.mem_cons.1 ((h y).2 (by simp)) with e | h2
        · exact e.symm
        · have h3 := hb'.1 x h1
          have h4 := ha'.1 y h2
          omega
    subst e
    congr 1
    refine asc_ext ha'.2 hb'.2 fun z => ?_
    have hz := h z
    simp only [List.mem_cons] at hz
    constructor
    · intro hm
      rcases hz.1 (.inr hm) with e | h1
      · have := ha'.1 z hm; omega
      · exact h1
    · intro hm
      rcases hz.2 (.inr hm) with e | h1
      · have := hb'.1 z hm; omega
      · exact h1
theorem ones_maskOf {l : List Nat} (h : l.Pairwise (· < ·)) (h12 : ∀ x ∈ l, x < 12) : ones (maskOf l) = l :=
  asc_ext (ones_asc _) h fun x => by
    rw [mem_ones, maskOf_bit]
    exact ⟨fun h => h.2, fun hx => ⟨h12 x hx, hx⟩⟩
theorem ones_lt {m d : Nat} (hm : m < 2 ^ d) : ∀ x ∈ ones m, x < d := fun x hx => by
  have h2 := (mem_ones.1 hx).2
  rcases Nat.lt_or_ge x d with h | h
  · exact h
  · rw [Nat.testBit_lt_two_pow (Nat.lt_of_lt_of_le hm (Nat.pow_le_pow_right (n := 2) (by decide) h))] at h2; cases h2
theorem maskOf_ones {m : Nat} (hm : m < 4096) : maskOf (ones m) = m :=
  ones_inj (maskOf_lt (d := 12) fun x hx => (mem_ones.1 hx).1) hm (ones_maskOf (ones_asc m) fun x hx => (mem_ones.1 hx).1)
/-- sets and lists of places -/
theorem mem_combs_ones {d k m : Nat} (hd : d ≤ 12) (hm : m < 2 ^ d) : ones m ∈ combs d 0 k ↔ (ones m).length = k := by
  rw [mem_combs]
  exact ⟨fun h => h.1, fun h => ⟨h, ones_asc m, fun x hx => by have := ones_lt hm x hx; omega⟩⟩
theorem combs_mask {d k : Nat} (hd : d ≤ 12) {l : List Nat} (h : l ∈ combs d 0 k) : ∃ m, m < 2 ^ d ∧ ones m = l := by
  obtain ⟨_, h2, h3⟩ := (mem_combs _ _ _ _).1 h
  exact ⟨maskOf l, maskOf_lt fun x hx => by have := h3 x hx; omega, ones_maskOf h2 fun x hx => by have := h3 x hx; omega⟩

/-! ### what a set leaves -/
def leftU (n : Nat) (L : List Int) (m : Nat) : Int := wt L (ones m) % n
def sets (n : Nat) (L : List Int) (k : Nat) : List Nat := (List.range (2 ^ L.length)).filter fun m => leftU n L m == 0 && (ones m).length == k
/-- the order of sets -/
def before (a b : Nat) : Bool := lexB (ones a) (ones b)
/-- sets in ascending order are the lists of the answer -/
theorem whole_sets {n : Nat} {L : List Int} {k : Nat} (hL : L.length ≤ 12) {w : List Nat} (hp : w.Perm (sets n L k)) (hs : w.Pairwise fun a b => before a b = true) : w.map ones = whole n L k := by
  refine asc_unique (List.pairwise_map.2 hs) (whole_asc n L k) fun x => ?_
  unfold whole
  rw [List.mem_map, List.mem_filter]
  constructor
  · rintro ⟨m, hm, rfl⟩
    have := List.mem_filter.1 (hp.mem_iff.1 hm)
    obtain ⟨h1, h2⟩ := this
    rw [List.mem_range] at h1
    simp only [Bool.and_eq_true, beq_iff_eq] at h2
    exact ⟨(mem_combs_ones hL h1).2 h2.2, by simpa [leftU] using h2.1⟩
  · rintro ⟨h1, h2⟩
    obtain ⟨m, hm, rfl⟩ := combs_mask hL h1
    refine ⟨m, hp.mem_iff.2 (List.mem_filter.2 ⟨List.mem_range.2 hm, ?_⟩), rfl⟩
    simp only [Bool.and_eq_true, beq_iff_eq]
    exact ⟨by simpa [leftU] using h2, (mem_combs_ones hL hm).1 h1⟩
end R7

namespace R7

/-- no load in common -/
def disj (a b : Nat) : Bool := a &&& b == 0
/-- a is part of b -/
def sub (a b : Nat) : Bool := a &&& b == a
/-- b without a -/
def dif (b a : Nat) : Nat := b ^^^ (b &&& a)
theorem disj_iff {a b : Nat} : disj a b = true ↔ ∀ i, a.testBit i = true → b.testBit i = true → False := by
  unfold disj
  rw [beq_iff_eq]
  constructor
  · intro h i h1 h2
    have := congrArg (fun m => Nat.testBit m i) h
    simp only [Nat.testBit_and, h1, h2, Nat.zero_testBit] at this
    cases this
  · intro h
    apply Nat.eq_of_testBit_eq
    intro i
    rw [Nat.testBit_and, Nat.zero_testBit]
    cases h1 : a.testBit i with
    | false => rfl
    | true => cases h2 : b.testBit i with
      | false => rfl
      | true => exact (h i h1 h2).elim
theorem sub_iff {a b : Nat} : sub a b = true ↔ ∀ i, a.testBit i = true → b.testBit i = true := by
  unfold sub
  rw [beq_iff_eq]
  constructor
  · intro h i h1
    rw [← h, Nat.testBit_and, Bool.and_eq_true] at h1
    exact h1.2
  · intro h
    apply Nat.eq_of_testBit_eq
    intro i
    rw [Nat.testBit_and]
    cases h1 : a.testBit i with
    | false => rfl
    | true => rw [h i h1]; rfl
theorem dif_bit (b a i : Nat) : (dif b a).testBit i = (b.testBit i && !a.testBit i) := by
  unfold dif
  rw [Nat.testBit_xor, Nat.testBit_and]
  cases b.testBit i <;> cases a.testBit i <;> rfl
theorem dif_le (b a : Nat) : dif b a ≤ b := Nat.le_of_testBit fun i h => by rw [dif_bit, Bool.and_eq_true] at h; exact h.1
theorem exists_bit {a : Nat} (h : a ≠ 0) : ∃ i, a.testBit i = true := by
  refine Classical.byContradiction fun hn => h ?_
  apply Nat.eq_of_testBit_eq
  intro i
  rw [Nat.zero_testBit]
  cases hb : a.testBit i with
  | false => rfl
  | true => exact (hn ⟨i, hb⟩).elim
theorem dif_lt {b a : Nat} (h : sub a b = true) (ha : a ≠ 0) : dif b a < b := by
  refine Nat.lt_of_le_of_ne (dif_le b a) fun e => ?_
  obtain ⟨i, hi⟩ := exists_bit ha
  have h1 := sub_iff.1 h i hi
  have h2 := congrArg (fun m => Nat.testBit m i) e
  simp only [dif_bit, h1, hi, Bool.not_true, Bool.and_false] at h2
  cases h2
theorem sub_dif {l s t : Nat} : sub l (dif s t) = true ↔ sub l s = true ∧ disj t l = true := by
  rw [sub_iff, sub_iff, disj_iff]
  constructor
  · intro h
    refine ⟨fun i hi => ?_, fun i h1 h2 => ?_⟩
    · have := h i hi; rw [dif_bit, Bool.and_eq_true] at this; exact this.1
    · have := h i h2; rw [dif_bit, h1, Bool.not_true, Bool.and_false] at this; cases this
  · rintro ⟨h1, h2⟩ i hi
    rw [dif_bit, h1 i hi]
    cases ht : t.testBit i with
    | false => rfl
    | true => exact (h2 i ht hi).elim

/-! ### families -/
/-- sets of w, within s, no two of which have a thing in common -/
structure Fam (w : List Nat) (s : Nat) (F : List Nat) : Prop where
  mem : ∀ x ∈ F, x ∈ w ∧ sub x s = true
  dis : F.Pairwise fun a b => disj a b = true
theorem disj_comm {a b : Nat} : disj a b = disj b a := by unfold disj; rw [Nat.and_comm]
/-- the most sets: what all ways to find them give -/
structure IsMost (w : List Nat) (mx : Nat → Nat) : Prop where
  att : ∀ s, ∃ F, Fam w s F ∧ F.length = mx s
  le : ∀ s F, Fam w s F → F.length ≤ mx s
/-- the first list of so many sets, one after the other -/
def first : List Nat → Nat → Option (List Nat)
  | _, 0 => some []
  | [], _ + 1 => none
  | l :: w, k + 1 => match first (w.filter (disj l)) k with
    | some r => some (l :: r)
    | none => first w (k + 1)
termination_by w k => (w.length, k)
decreasing_by
  all_goals simp_wf
  · have := List.length_filter_le (disj l) w
    exact Prod.Lex.left _ _ (by omega)
  · exact Prod.Lex.left _ _ (by omega)
theorem first_zero (w : List Nat) : first w 0 = some [] := by cases w <;> rw [first]
theorem first_nil (k : Nat) : first [] (k + 1) = none := by rw [first]
theorem first_cons (l : Nat) (w : List Nat) (k : Nat) : first (l :: w) (k + 1) = match first (w.filter (disj l)) k with
    | some r => some (l :: r)
    | none => first w (k + 1) := by rw [first]
theorem first_fam : ∀ (n : Nat) (w : List Nat) (k : Nat) (r : List Nat), w.length ≤ n → first w k = some r → r.length = k ∧ (∀ x ∈ r, x ∈ w) ∧ r.Pairwise fun a b => disj a b = true
  | n, w, 0, r, _, h => by rw [first_zero] at h; cases h; simp
  | _, [], k + 1, r, _, h => by rw [first_nil] at h; cases h
  | n + 1, l :: w, k + 1, r, hn, h => by
    rw [first_cons] at h
    simp only [List.length_cons] at hn
    cases hf : first (w.filter (disj l)) k with
    | some r' =>
      rw [hf] at h; cases h
      obtain ⟨h1, h2, h3⟩ := first_fam n _ k r' (by have := List.length_filter_le (disj l) w; omega) hf
      refine ⟨by simp [h1], fun x hx => ?_, List.pairwise_cons.2 ⟨fun x hx => (List.mem_filter.1 (h2 x hx)).2, h3⟩⟩
      rcases List.mem_cons.1 hx with rfl | hx
      · simp
      · exact List.mem_cons_of_mem _ (List.mem_filter.1 (h2 x hx)).1
    | none =>
      rw [hf] at h
      obtain ⟨h1, h2, h3⟩ := first_fam n w (k + 1) r (by omega) h
      exact ⟨h1, fun x hx => List.mem_cons_of_mem _ (h2 x hx), h3⟩
/-- the program's way: a set is taken if with it there are still as many -/
def greedy (mx : Nat → Nat) : List Nat → Nat → List Nat
  | [], _ => []
  | l :: w, s => if sub l s = true ∧ 1 + mx (dif s l) = mx s then l :: greedy mx w (dif s l) else greedy mx w s
theorem Fam.cons {w F : List Nat} {s l : Nat} (hF : Fam w (dif s l) F) (hl : l ∈ w) (hs : sub l s = true) : Fam w s (l :: F) where
  mem := fun x hx => by
    rcases List.mem_cons.1 hx with rfl | hx
    · exact ⟨hl, hs⟩
    · exact ⟨(hF.mem x hx).1, (sub_dif.1 (hF.mem x hx).2).1⟩
  dis := List.pairwise_cons.2 ⟨fun x hx => (sub_dif.1 (hF.mem x hx).2).2, hF.dis⟩
theorem disj_self {l : Nat} (h0 : l ≠ 0) : disj l l = false := by unfold disj; rw [Nat.and_self]; simpa using h0
/-- a set of a family, and the others -/
theorem Fam.split {w F : List Nat} {s l : Nat} (hF : Fam w s F) (hl : l ∈ F) : ∃ G, Fam w (dif s l) G ∧ F.length = G.length + 1 ∧ (∀ x ∈ F, x = l ∨ x ∈ G) := by
  obtain ⟨A, B, rfl⟩ := List.append_of_mem hl
  have hd := hF.dis
  rw [List.pairwise_append] at hd
  obtain ⟨d1, d2, d3⟩ := hd
  rw [List.pairwise_cons] at d2
  refine ⟨A ++ B, ⟨fun x hx => ?_, List.pairwise_append.2 ⟨d1, d2.2, fun a ha b hb => d3 a ha b (List.mem_cons_of_mem _ hb)⟩⟩, by simp; omega, fun x hx => ?_⟩
  · rcases List.mem_append.1 hx with hx | hx
    · have := hF.mem x (by simp [hx])
      exact ⟨this.1, sub_dif.2 ⟨this.2, by rw [disj_comm]; exact d3 x hx l (by simp)⟩⟩
    · have := hF.mem x (by simp [hx])
      exact ⟨this.1, sub_dif.2 ⟨this.2, d2.1 x hx⟩⟩
  · rcases List.mem_append.1 hx with hx | hx
    · exact .inr (by simp [hx])
    · rcases List.mem_cons.1 hx with rfl | hx
      · exact .inl rfl
      · exact .inr (by simp [hx])
theorem filter_sub_dif (w : List Nat) (s l : Nat) : (w.filter fun x => sub x s).filter (disj l) = w.filter fun x => sub x (dif s l) := by
  rw [List.filter_filter]
  apply List.filter_congr
  intro x _
  rw [Bool.eq_iff_iff, Bool.and_eq_true, sub_dif]
  exact and_comm
/-- the program's way finds the first list -/
theorem greedy_first {w : List Nat} {mx : Nat → Nat} (hm : IsMost w mx) (h0 : ∀ x ∈ w, x ≠ 0) : ∀ (v : List Nat) (s : Nat), (∀ x ∈ v, x ∈ w) → (∀ F, Fam w s F → F.length = mx s → ∀ x ∈ F, x ∈ v) → first (v.filter fun x => sub x s) (mx s) = some (greedy mx v s)
  | [], s, _, hi => by
    obtain ⟨F, hF, hl⟩ := hm.att s
    have : F = [] := by
      cases F with
      | nil => rfl
      | cons x F => have := hi _ hF hl x (by simp); cases this
    subst this
    simp only [List.length_nil] at hl
    rw [← hl, first_zero]; rfl
  | l :: v, s, hv, hi => by
    have hlw := hv l (by simp)
    by_cases hs : sub l s = true
    · rw [show (l :: v).filter (fun x => sub x s) = l :: v.filter (fun x => sub x s) from List.filter_cons_of_pos (by simpa using hs)]
      have h1 : 1 + mx (dif s l) ≤ mx s := by
        obtain ⟨G, hG, hgl⟩ := hm.att (dif s l)
        have := hm.le s _ (hG.cons hlw hs)
        simp only [List.length_cons] at this; omega
      obtain ⟨k, hk⟩ : ∃ k, mx s = k + 1 := ⟨mx s - 1, by omega⟩
      by_cases he : 1 + mx (dif s l) = mx s
      · have hk' : k = mx (dif s l) := by omega
        have ih := greedy_first hm h0 v (dif s l) (fun x hx => hv x (List.mem_cons_of_mem _ hx)) fun F hF hl' x hx => by
          have hc := hi _ (hF.cons hlw hs) (by simp only [List.length_cons]; omega) x (List.mem_cons_of_mem _ hx)
          rcases List.mem_cons.1 hc with rfl | hc
          · have := (sub_dif.1 (hF.mem x hx).2).2
            rw [disj_self (h0 x hlw)] at this; cases this
          · exact hc
        rw [hk, first_cons, filter_sub_dif, hk', ih]
        simp only [greedy]
        rw [if_pos ⟨hs, he⟩]
      · have ih := greedy_first hm h0 v s (fun x hx => hv x (List.mem_cons_of_mem _ hx)) fun F hF hl' x hx => by
          rcases List.mem_cons.1 (hi F hF hl' x hx) with rfl | hc
          · obtain ⟨G, hG, hgl, _⟩ := hF.split hx
            have := hm.le _ _ hG
            omega
          · exact hc
        rw [hk] at ih ⊢
        rw [first_cons, filter_sub_dif]
        have hn : first (v.filter fun x => sub x (dif s l)) k = none := by
          cases hf : first (v.filter fun x => sub x (dif s l)) k with
          | none => rfl
          | some r =>
            obtain ⟨g1, g2, g3⟩ := first_fam _ _ k r (Nat.le_refl _) hf
            have := hm.le (dif s l) r ⟨fun x hx => by
              have := List.mem_filter.1 (g2 x hx)
              exact ⟨hv x (List.mem_cons_of_mem _ this.1), this.2⟩, g3⟩
            omega
        rw [hn]
        simp only [greedy]
        rw [if_neg (fun h => he h.2)]
        exact ih
    · rw [show (l :: v).filter (fun x => sub x s) = v.filter (fun x => sub x s) from List.filter_cons_of_neg (by simpa using hs)]
      have ih := greedy_first hm h0 v s (fun x hx => hv x (List.mem_cons_of_mem _ hx)) fun F hF hl' x hx => by
        rcases List.mem_cons.1 (hi F hF hl' x hx) with rfl | hc
        · exact absurd (hF.mem x hx).2 hs
        · exact hc
      simp only [greedy]
      rw [if_neg (fun h => hs h.1)]
      exact ih
/-- no more can be found -/
theorem first_none {w : List Nat} {mx : Nat → Nat} (hm : IsMost w mx) {s k : Nat} (hs : ∀ x ∈ w, sub x s = true) (hk : mx s < k) : first w k = none := by
  cases hf : first w k with
  | none => rfl
  | some r =>
    obtain ⟨g1, g2, g3⟩ := first_fam _ _ k r (Nat.le_refl _) hf
    have := hm.le s r ⟨fun x hx => ⟨g2 x hx, hs x (g2 x hx)⟩, g3⟩
    omega
end R7

namespace R7

theorem fam_le {w : List Nat} (h0 : ∀ x ∈ w, x ≠ 0) : ∀ (n s : Nat) (F : List Nat), s ≤ n → Fam w s F → F.length ≤ s
  | _, s, [], _, _ => by simp
  | n, s, l :: F, hn, hF => by
    obtain ⟨G, hG, hl, _⟩ := hF.split (l := l) (by simp)
    have h1 := hF.mem l (by simp)
    have h2 := dif_lt h1.2 (h0 l h1.1)
    cases n with
    | zero => omega
    | succ n => have := fam_le h0 n (dif s l) G (by omega) hG; omega
theorem exists_most {w : List Nat} (h0 : ∀ x ∈ w, x ≠ 0) (s : Nat) : ∃ k, (∃ F, Fam w s F ∧ F.length = k) ∧ ∀ F, Fam w s F → F.length ≤ k := by
  have main : ∀ d, d ≤ s → (∀ F, Fam w s F → F.length ≤ s - d) → ∃ k, (∃ F, Fam w s F ∧ F.length = k) ∧ ∀ F, Fam w s F → F.length ≤ k := by
    intro d hd
    induction hk : s - d generalizing d with
    | zero =>
      intro h
      exact ⟨0, ⟨[], ⟨by simp, List.Pairwise.nil⟩, rfl⟩, h⟩
    | succ k ih =>
      intro h
      by_cases he : ∃ F, Fam w s F ∧ F.length = k + 1
      · exact ⟨k + 1, he, h⟩
      · refine ih (d + 1) (by omega) (by omega) fun F hF => ?_
        have := h F hF
        rcases Nat.lt_or_ge k F.length with h1 | h1
        · exact absurd ⟨F, hF, by omega⟩ he
        · omega
  exact main 0 (by omega) fun F hF => by have := fam_le h0 s s F (Nat.le_refl _) hF; omega
/-- the most sets of w within s -/
noncomputable def mx (w : List Nat) (s : Nat) : Nat := open Classical in if h : ∃ k, (∃ F, Fam w s F ∧ F.length = k) ∧ ∀ F, Fam w s F → F.length ≤ k then h.choose else 0
theorem mx_most {w : List Nat} (h0 : ∀ x ∈ w, x ≠ 0) : IsMost w (mx w) where
  att s := by
    have h := exists_most h0 s
    unfold mx
    rw [dif_pos h]
    exact h.choose_spec.1
  le s := by
    have h := exists_most h0 s
    unfold mx
    rw [dif_pos h]
    exact h.choose_spec.2
theorem le_foldl {α : Type} (p : α → Bool) (f : α → Nat) : ∀ (w : List α) (b : Nat), b ≤ w.foldl (fun b l => if p l = true then max b (f l) else b) b ∧ ∀ l ∈ w, p l = true → f l ≤ w.foldl (fun b l => if p l = true then max b (f l) else b) b
  | [], b => ⟨Nat.le_refl _, by simp⟩
  | x :: w, b => by
    obtain ⟨h1, h2⟩ := le_foldl p f w (if p x = true then max b (f x) else b)
    simp only [List.foldl_cons]
    refine ⟨Nat.le_trans ?_ h1, fun l hl hp => ?_⟩
    · split <;> omega
    · rcases List.mem_cons.1 hl with rfl | hl
      · rw [if_pos hp] at h1 ⊢
        omega
      · exact h2 l hl hp
theorem foldl_le {α : Type} (p : α → Bool) (f : α → Nat) (m : Nat) : ∀ (w : List α) (b : Nat), b ≤ m → (∀ l ∈ w, p l = true → f l ≤ m) → w.foldl (fun b l => if p l = true then max b (f l) else b) b ≤ m
  | [], b, h, _ => h
  | x :: w, b, h, h' => by
    simp only [List.foldl_cons]
    refine foldl_le p f m w _ ?_ fun l hl => h' l (List.mem_cons_of_mem _ hl)
    split
    · rename_i hp; have := h' x (by simp) hp; omega
    · exact h
theorem mx_cons {w : List Nat} (h0 : ∀ x ∈ w, x ≠ 0) {s l : Nat} (hl : l ∈ w) (hs : sub l s = true) : 1 + mx w (dif s l) ≤ mx w s := by
  obtain ⟨G, hG, hgl⟩ := (mx_most h0).att (dif s l)
  have := (mx_most h0).le s _ (hG.cons hl hs)
  simp only [List.length_cons] at this; omega
theorem mx_mono {w : List Nat} (h0 : ∀ x ∈ w, x ≠ 0) {s t : Nat} (h : sub s t = true) : mx w s ≤ mx w t := by
  obtain ⟨G, hG, hgl⟩ := (mx_most h0).att s
  have := (mx_most h0).le t G ⟨fun x hx => ⟨(hG.mem x hx).1, sub_iff.2 fun i hi => sub_iff.1 h i (sub_iff.1 (hG.mem x hx).2 i hi)⟩, hG.dis⟩
  omega
/-- the table's step: without the greatest thing, or with a set that has it -/
theorem mx_step {w : List Nat} (h0 : ∀ x ∈ w, x ≠ 0) {s t : Nat} : mx w s = w.foldl (fun b l => if (l.testBit t && sub l s) = true then max b (1 + mx w (dif s l)) else b) (mx w (dif s (2 ^ t))) := by
  apply Nat.le_antisymm
  · obtain ⟨F, hF, hl⟩ := (mx_most h0).att s
    obtain ⟨h1, h2⟩ := le_foldl (fun l => l.testBit t && sub l s) (fun l => 1 + mx w (dif s l)) w (mx w (dif s (2 ^ t)))
    by_cases he : ∃ l ∈ F, l.testBit t = true
    · obtain ⟨l, hlF, hlt⟩ := he
      obtain ⟨G, hG, hgl, _⟩ := hF.split hlF
      have := (mx_most h0).le _ _ hG
      have h3 := h2 l (hF.mem l hlF).1 (by simp [hlt, (hF.mem l hlF).2])
      omega
    · have hG : Fam w (dif s (2 ^ t)) F := ⟨fun x hx => ⟨(hF.mem x hx).1, sub_iff.2 fun i hi => by
        rw [dif_bit, sub_iff.1 (hF.mem x hx).2 i hi, Nat.testBit_two_pow]
        have : ¬ t = i := fun e => he ⟨x, hx, e ▸ hi⟩
        simp [this]⟩, hF.dis⟩
      have := (mx_most h0).le _ _ hG
      omega
  · refine foldl_le _ _ _ _ _ (mx_mono h0 (sub_iff.2 fun i hi => by rw [dif_bit, Bool.and_eq_true] at hi; exact hi.1)) fun l hl hp => ?_
    rw [Bool.and_eq_true] at hp
    exact mx_cons h0 hl hp.2
theorem mx_zero {w : List Nat} (h0 : ∀ x ∈ w, x ≠ 0) : mx w 0 = 0 := by
  obtain ⟨F, hF, hl⟩ := (mx_most h0).att 0
  have := fam_le h0 0 0 F (Nat.le_refl _) hF
  omega

/-! ### bits -/
def tz (m : Nat) : Nat := (ones m).headD 0
theorem ones_zero : ones 0 = [] := by decide
set_option maxRecDepth 100000 in
theorem ones_step : ∀ m < 4096, m ≠ 0 → ones m = tz m :: ones (m &&& (m - 1)) := by decide +kernel
set_option maxRecDepth 100000 in
theorem ones_top : ∀ m < 4096, m ≠ 0 → ones m = ones (m - 2 ^ Nat.log2 m) ++ [Nat.log2 m] := by decide +kernel
set_option maxRecDepth 100000 in
theorem top_dif : ∀ m < 4096, m ≠ 0 → dif m (2 ^ Nat.log2 m) = m - 2 ^ Nat.log2 m := by decide +kernel
theorem lexB_append (p x y : List Nat) : lexB (p ++ x) (p ++ y) = lexB x y := by
  induction p with
  | nil => rfl
  | cons a p ih => simp [lexB, ih]
theorem range_split {i : Nat} (hi : i < 12) : List.range 12 = List.range i ++ i :: (List.range' (i + 1) (11 - i)) := by
  have e : (12 : Nat) = i + (1 + (11 - i)) := by omega
  rw [e, List.range_add, ← List.range'_eq_map_range]
  congr 1
  rw [Nat.add_comm 1, List.range'_succ]
/-- the first place where two sets differ tells which one comes first, if both have as many things -/
theorem before_bit {a b i : Nat} (hi : i < 12) (hlow : ∀ j, j < i → a.testBit j = b.testBit j) (ha : a.testBit i = true) (hb : b.testBit i = false) (hlen : (ones a).length = (ones b).length) : before a b = true := by
  unfold before
  have e : ∀ m, ones m = (List.range i).filter (fun j => m.testBit j) ++ ((i :: List.range' (i + 1) (11 - i)).filter fun j => m.testBit j) := fun m => by
    unfold ones; rw [range_split hi, List.filter_append]
  have hp : (List.range i).filter (fun j => a.testBit j) = (List.range i).filter (fun j => b.testBit j) := List.filter_congr fun j hj => hlow j (List.mem_range.1 hj)
  rw [e a, e b, hp, List.filter_cons_of_pos ha, List.filter_cons_of_neg (by simp [hb])] at hlen ⊢
  rw [lexB_append]
  simp only [List.length_append, List.length_cons] at hlen
  cases hr : (List.range' (i + 1) (11 - i)).filter (fun j => b.testBit j) with
  | nil => rw [hr] at hlen; simp at hlen <;> omega
  | cons y r =>
    have hy : y ∈ (List.range' (i + 1) (11 - i)).filter (fun j => b.testBit j) := by rw [hr]; simp
    have := (List.mem_filter.1 hy).1
    rw [List.mem_range'_1] at this
    simp only [lexB, Bool.or_eq_true, decide_eq_true_eq]
    exact .inl (by omega)
theorem xor_zero {a b : Nat} (h : a ^^^ b = 0) : a = b := by
  apply Nat.eq_of_testBit_eq
  intro i
  have := congrArg (fun m => Nat.testBit m i) h
  simp only [Nat.testBit_xor, Nat.zero_testBit] at this
  cases ha : a.testBit i <;> cases hb : b.testBit i <;> simp_all
/-- what the program asks -/
def bitB (a b : Nat) : Bool := (a ^^^ b != 0) && a.testBit (tz (a ^^^ b))
theorem tz_spec {m : Nat} (hm : m < 4096) (h0 : m ≠ 0) : tz m < 12 ∧ m.testBit (tz m) = true ∧ ∀ j, j < tz m → m.testBit j = false := by
  have hs := ones_step m hm h0
  have h1 : tz m ∈ ones m := by rw [hs]; simp
  obtain ⟨h2, h3⟩ := mem_ones.1 h1
  refine ⟨h2, h3, fun j hj => ?_⟩
  cases hb : m.testBit j with
  | false => rfl
  | true =>
    have hjm : j ∈ ones m := mem_ones.2 ⟨by omega, hb⟩
    have hasc := ones_asc m
    rw [hs] at hjm hasc
    rcases List.mem_cons.1 hjm with e | h
    · omega
    · have := (List.pairwise_cons.1 hasc).1 j h; omega
theorem bitB_eq {a b : Nat} (ha : a < 4096) (hb : b < 4096) (hlen : (ones a).length = (ones b).length) : bitB a b = before a b := by
  unfold bitB
  by_cases he : a = b
  · subst he
    unfold before
    rw [lexB_irrefl, Nat.xor_self]; rfl
  · have hx : a ^^^ b ≠ 0 := fun h => he (xor_zero h)
    obtain ⟨h1, h2, h3⟩ := tz_spec (Nat.xor_lt_two_pow (n := 12) ha hb) hx
    generalize tz (a ^^^ b) = i at *
    have hlow : ∀ j, j < i → a.testBit j = b.testBit j := fun j hj => by
      have := h3 j hj
      rw [Nat.testBit_xor] at this
      cases h : a.testBit j <;> cases h' : b.testBit j <;> simp_all
    rw [Nat.testBit_xor] at h2
    have hx' : (a ^^^ b != 0) = true := by simpa using hx
    rw [hx', Bool.true_and]
    cases hai : a.testBit i with
    | true =>
      rw [hai] at h2
      exact (before_bit h1 hlow hai (by simpa using h2) hlen).symm
    | false =>
      rw [hai] at h2
      have := before_bit h1 (fun j hj => (hlow j hj).symm) (by simpa using h2) hai hlen.symm
      unfold before at *
      exact (lexB_asymm this).symm
end R7
