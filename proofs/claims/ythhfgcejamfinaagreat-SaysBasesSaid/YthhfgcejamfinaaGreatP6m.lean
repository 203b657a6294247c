/-
  Plain models of the chapter's reference: closed sets, what follows, all sets. Conditions: none.
-/
import Derived.Test.YthhfgcejamfinaaGreatP6y
set_option linter.unusedVariables false
set_option linter.unusedSimpArgs false
set_option linter.deprecated false
namespace Go.V.R6
def closedR (l : Bk) (set : List Int) : Bool := l.all fun s => !(part s.1 set) || part s.2 set
theorem closedR_take {l : Bk} {set : List Int} {k : Nat} {x : List Int × List Int} (h : closedR (l.take k) set = true) (hx : l[k]? = some x) (hc : part x.1 set = false ∨ part x.2 set = true) : closedR (l.take (k + 1)) set = true := by
  rw [take_succ_of hx]; unfold closedR at *; rw [List.all_append, h]
  rcases hc with hc | hc <;> simp [hc]
theorem closedR_false {l : Bk} {set : List Int} {k : Nat} {x : List Int × List Int} (hx : l[k]? = some x) (h1 : part x.1 set = true) (h2 : part x.2 set = false) : closedR l set = false := by
  unfold closedR; rw [List.all_eq_false]; exact ⟨x, List.mem_of_getElem? hx, by simp [h1, h2]⟩
def fromR (b : List Int) : Int := if 0 < b.length then b.getD (b.length - 1) 0 + 1 else 0
theorem fromR_snoc (b : List Int) (i : Int) : fromR (b ++ [i]) = i + 1 := by simp [fromR]
def setsR : Nat → Int → List Int → List (List Int)
  | 0, _, b => [b]
  | f + 1, n, b => b :: (List.range (n - fromR b).toNat).flatMap fun (j : Nat) => setsR f n (b ++ [fromR b + (j : Int)])
theorem flatMap_congr' {α β : Type} {f g : α → List β} : ∀ {l : List α}, (∀ x ∈ l, f x = g x) → l.flatMap f = l.flatMap g
  | [], _ => rfl
  | x :: l, h => by rw [List.flatMap_cons, List.flatMap_cons, h x (by simp), flatMap_congr' fun y hy => h y (by simp [hy])]
theorem setsR_fuel (n : Int) : ∀ (f : Nat) (b : List Int), (n - fromR b).toNat ≤ f → setsR (f + 1) n b = setsR f n b
  | 0, b, h => by
    have : (n - fromR b).toNat = 0 := by omega
    simp [setsR, this]
  | f + 1, b, h => by
    conv => lhs; rw [setsR]
    conv => rhs; rw [setsR]
    rw [flatMap_congr' fun j hj => ?_]
    have := List.mem_range.1 hj
    exact setsR_fuel n f _ (by rw [fromR_snoc]; omega)
/-- the first ones of the sets that begin with some -/
def setsK (n : Int) (b : List Int) (k : Nat) : List (List Int) := b :: (List.range k).flatMap fun (j : Nat) => setsR 6 n (b ++ [fromR b + (j : Int)])
theorem setsK_zero (n : Int) (b : List Int) : setsK n b 0 = [b] := by simp [setsK]
theorem setsK_succ (n : Int) (b : List Int) (k : Nat) : setsK n b (k + 1) = setsK n b k ++ setsR 6 n (b ++ [fromR b + (k : Int)]) := by
  unfold setsK; rw [List.range_succ, List.flatMap_append]; simp
theorem setsK_all {n : Int} {b : List Int} (hn : n ≤ 6) (hb : 0 ≤ fromR b) : setsK n b (n - fromR b).toNat = setsR 6 n b := by
  rw [← setsR_fuel n 6 b (by omega)]; rfl
theorem flatMap_length_le {α β : Type} {f : α → List β} {m : Nat} : ∀ {l : List α}, (∀ x ∈ l, (f x).length ≤ m) → (l.flatMap f).length ≤ l.length * m
  | [], _ => by simp
  | x :: l, h => by
    rw [List.flatMap_cons, List.length_append, List.length_cons, Nat.succ_mul]
    have := h x (by simp)
    have := flatMap_length_le (m := m) fun y hy => h y (List.mem_cons_of_mem x hy)
    omega
theorem setsR_length {n : Int} (hn : n ≤ 6) : ∀ (f : Nat) (b : List Int), 0 ≤ fromR b → (setsR f n b).length ≤ 7 ^ f
  | 0, b, _ => by simp [setsR]
  | f + 1, b, hb => by
    rw [setsR, List.length_cons]
    have h := flatMap_length_le (f := fun j : Nat => setsR f n (b ++ [fromR b + (j : Int)])) (m := 7 ^ f) (l := List.range (n - fromR b).toNat) fun j _ => setsR_length hn f _ (by rw [fromR_snoc]; omega)
    rw [List.length_range] at h
    have h2 : (n - fromR b).toNat * 7 ^ f ≤ 6 * 7 ^ f := Nat.mul_le_mul_right _ (by omega)
    have h3 : 0 < 7 ^ f := Nat.pow_pos (by omega)
    rw [Nat.pow_succ]; omega
theorem setsK_length {n : Int} (hn : n ≤ 6) {b : List Int} (hb : 0 ≤ fromR b) {k : Nat} (hk : k ≤ 6) : (setsK n b k).length ≤ 1000000 := by
  unfold setsK
  rw [List.length_cons]
  have h := flatMap_length_le (f := fun j : Nat => setsR 6 n (b ++ [fromR b + (j : Int)])) (m := 7 ^ 6) (l := List.range k) fun j _ => setsR_length hn 6 _ (by rw [fromR_snoc]; omega)
  rw [List.length_range] at h
  omega
/-- all sets of so many facts -/
def setsA (n : Int) : List (List Int) := setsR 6 n []
def allR (n : Int) (l : Bk) : List (List Int) := (setsA n).filter (closedR l)
def followsUpto (n : Int) (l : Bk) (set : List Int) (k : Nat) : List Int := ((List.range k).map Int.ofNat).filter fun i => (allR n l).all fun c => !(part set c) || c.contains i
def followsR (n : Int) (l : Bk) (set : List Int) : List Int := followsUpto n l set n.toNat
theorem setsR_row {n : Int} (hn : n ≤ 6) : ∀ (f : Nat) (b : List Int), b.length ≤ fromR b → fromR b ≤ 6 → ∀ r ∈ setsR f n b, r.length ≤ 6
  | 0, b, h1, h2, r, hr => by
    simp [setsR] at hr; subst hr; omega
  | f + 1, b, h1, h2, r, hr => by
    rw [setsR] at hr
    rcases List.mem_cons.1 hr with e | e
    · subst e; omega
    · obtain ⟨j, hj, hr⟩ := List.mem_flatMap.1 e
      have hj := List.mem_range.1 hj
      exact setsR_row hn f _ (by rw [fromR_snoc, List.length_append]; simp; omega) (by rw [fromR_snoc]; omega) r hr
theorem setsA_row {n : Int} (hn : n ≤ 6) : ∀ r ∈ setsA n, r.length ≤ 6 := setsR_row hn 6 [] (by simp [fromR]) (by simp [fromR])
theorem allR_row {n : Int} (hn : n ≤ 6) (l : Bk) : ∀ r ∈ allR n l, r.length ≤ 6 := fun r hr => setsA_row hn r (List.mem_filter.1 hr).1
theorem allR_length {n : Int} (hn : n ≤ 6) (l : Bk) : (allR n l).length ≤ 117649 := Nat.le_trans (List.length_filter_le _ _) (setsR_length hn 6 [] (by simp [fromR]))
/-- does a closed set that has a set have a fact? -/
def folAt (set : List Int) (k : Nat) (c : List Int) : Bool := !(part set c) || c.contains (k : Int)
theorem followsUpto_zero (n : Int) (l : Bk) (set : List Int) : followsUpto n l set 0 = [] := rfl
theorem followsUpto_succ (n : Int) (l : Bk) (set : List Int) (k : Nat) : followsUpto n l set (k + 1) = followsUpto n l set k ++ (if (allR n l).all (folAt set k) = true then [(k : Int)] else []) := by
  unfold followsUpto
  rw [List.range_succ, List.map_append, List.filter_append]
  simp only [List.map_cons, List.map_nil, List.filter_cons, List.filter_nil]
  rfl
theorem followsUpto_length (n : Int) (l : Bk) (set : List Int) (k : Nat) : (followsUpto n l set k).length ≤ k := by
  unfold followsUpto
  refine Nat.le_trans (List.length_filter_le _ _) (by simp)
end Go.V.R6
