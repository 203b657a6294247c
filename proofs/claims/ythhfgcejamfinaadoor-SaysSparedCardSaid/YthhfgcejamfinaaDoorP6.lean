/-
  Plain models of the chapter's reference. Conditions: none.
  Plain models of the chapter's reference: checks, steps. Conditions: none.
-/
set_option linter.unusedVariables false
set_option linter.unusedSimpArgs false
set_option linter.deprecated false
namespace Go.V.R6

def inI (n lo hi : Int) : Bool := decide (lo ≤ n) && decide (n ≤ hi)
def part (a b : List Int) : Bool := a.all (b.contains ·)
def listedAt (set : List Int) (facts : Int) (i : Nat) : Option Int :=
  if inI (set.getD i 0) 0 (facts - 1) = false then some 2 else if 0 < i ∧ set.getD i 0 ≤ set.getD (i - 1) 0 then some 7 else none
def listed (set : List Int) (facts : Int) : Int := ((List.range set.length).findSome? (listedAt set facts)).getD 0
def sentErr (facts : Int) (s : List Int × List Int) : Int := if listed s.1 facts = 0 then listed s.2 facts else listed s.1 facts
def checkAt (facts : Int) (l : List (List Int × List Int)) (i : Nat) : Option Int := if sentErr facts (l.getD i ([], [])) = 0 then none else some (sentErr facts (l.getD i ([], [])))
def check (facts : Int) (l : List (List Int × List Int)) : Int :=
  if inI facts 1 6 = false then 1 else if 8 < l.length then 3 else ((List.range l.length).findSome? (checkAt facts l)).getD 0
def asked (facts : Int) (l : List (List Int × List Int)) (set : List Int) : Int := if check facts l = 0 then listed set facts else check facts l
def joinedUpto (a b : List Int) (k : Nat) : List Int := ((List.range k).map Int.ofNat).filter (fun n => a.contains n || b.contains n)
def joined (facts : Int) (a b : List Int) : List Int := joinedUpto a b facts.toNat

theorem findSome_none {α : Type} {f : Nat → Option α} {n : Nat} (h : ∀ j, j < n → f j = none) : (List.range n).findSome? f = none := by
  rw [List.findSome?_eq_none_iff]; intro x hx; exact h x (List.mem_range.1 hx)
theorem findSome_hit {α : Type} {f : Nat → Option α} {n k : Nat} {e : α} (h : ∀ j, j < k → f j = none) (hk : k < n) (he : f k = some e) : (List.range n).findSome? f = some e := by
  obtain ⟨m, rfl⟩ : ∃ m, n = k + 1 + m := ⟨n - (k + 1), by omega⟩
  rw [List.range_add, List.findSome?_append, List.range_succ, List.findSome?_append, findSome_none h]
  simp [he]
theorem below_succ {p : Nat → Prop} {k : Nat} (h : ∀ j, j < k → p j) (hk : p k) : ∀ j, j < k + 1 → p j := fun j hj => by
  by_cases e : j = k
  · exact e ▸ hk
  · exact h j (by omega)
theorem take_succ_of {α : Type} {l : List α} {k : Nat} {x : α} (h : l[k]? = some x) : l.take (k + 1) = l.take k ++ [x] := by
  rw [List.take_add_one, h]; rfl
theorem part_take {a b : List Int} {k : Nat} {x : Int} (h : part (a.take k) b = true) (hx : a[k]? = some x) (hb : b.contains x = true) : part (a.take (k + 1)) b = true := by
  rw [take_succ_of hx]; unfold part at *; rw [List.all_append, h]; simp only [List.all_cons, hb, List.all_nil, Bool.and_self]
theorem part_false {a b : List Int} {k : Nat} {x : Int} (hx : a[k]? = some x) (hb : b.contains x = false) : part a b = false := by
  unfold part; rw [List.all_eq_false]; exact ⟨x, List.mem_of_getElem? hx, by simpa using hb⟩
theorem joinedUpto_succ (a b : List Int) (k : Nat) : joinedUpto a b (k + 1) = joinedUpto a b k ++ (if (a.contains (k : Int) || b.contains (k : Int)) = true then [(k : Int)] else []) := by
  unfold joinedUpto
  rw [List.range_succ, List.map_append, List.filter_append]
  simp only [List.map_cons, List.map_nil, List.filter_cons, List.filter_nil]
  rfl
end Go.V.R6

namespace Go.V.R6
abbrev Bk := List (List Int × List Int)
def sAt (l : Bk) (i : Nat) : List Int × List Int := l.getD i ([], [])
/-- the first steps that begin with some, and are so many more -/
def stepsR (facts : Int) (l : Bk) (fact : Int) : Nat → List Int → List Int → List Int × Bool
  | 0, set, begun => (begun, set.contains fact)
  | m + 1, set, begun =>
    match (List.range l.length).findSome? (fun i => if part (sAt l i).1 set = true ∧ part (sAt l i).2 set = false then
        (if (stepsR facts l fact m (joined facts set (sAt l i).2) (begun ++ [(i : Int)])).2 = true then some (stepsR facts l fact m (joined facts set (sAt l i).2) (begun ++ [(i : Int)])).1 else none) else none) with
    | some r => (r, true)
    | none => ([], false)
def stepAt (facts : Int) (l : Bk) (fact : Int) (m : Nat) (set begun : List Int) (i : Nat) : Option (List Int) :=
  if part (sAt l i).1 set = true ∧ part (sAt l i).2 set = false then
    (if (stepsR facts l fact m (joined facts set (sAt l i).2) (begun ++ [(i : Int)])).2 = true then some (stepsR facts l fact m (joined facts set (sAt l i).2) (begun ++ [(i : Int)])).1 else none) else none
theorem stepsR_none {facts : Int} {l : Bk} {fact : Int} {m : Nat} {set begun : List Int} (h : ∀ j, j < l.length → stepAt facts l fact m set begun j = none) : stepsR facts l fact (m + 1) set begun = ([], false) := by
  have : (List.range l.length).findSome? (stepAt facts l fact m set begun) = none := by
    rw [List.findSome?_eq_none_iff]; intro x hx; exact h x (List.mem_range.1 hx)
  unfold stepAt at this
  unfold stepsR; rw [this]
theorem stepsR_hit {facts : Int} {l : Bk} {fact : Int} {m k : Nat} {set begun r : List Int} (h : ∀ j, j < k → stepAt facts l fact m set begun j = none) (hk : k < l.length) (hr : stepAt facts l fact m set begun k = some r) :
    stepsR facts l fact (m + 1) set begun = (r, true) := by
  have : (List.range l.length).findSome? (stepAt facts l fact m set begun) = some r := findSome_hit h hk hr
  unfold stepAt at this
  unfold stepsR; rw [this]
def stepsErr (facts : Int) (l : Bk) (set : List Int) (fact : Int) : Int := if asked facts l set = 0 then (if inI fact 0 (facts - 1) = false then 2 else 0) else asked facts l set
def stepsTop (facts : Int) (l : Bk) (set : List Int) (fact : Int) : List Int × Int :=
  if stepsErr facts l set fact ≠ 0 then ([], stepsErr facts l set fact)
  else match (List.range (facts.toNat + 1)).findSome? (fun n => if (stepsR facts l fact n set []).2 = true then some (stepsR facts l fact n set []).1 else none) with
    | some r => (r, 0)
    | none => ([], 12)
def topAt (facts : Int) (l : Bk) (set : List Int) (fact : Int) (n : Nat) : Option (List Int) := if (stepsR facts l fact n set []).2 = true then some (stepsR facts l fact n set []).1 else none
theorem stepsTop_err {facts : Int} {l : Bk} {set : List Int} {fact : Int} (h : stepsErr facts l set fact ≠ 0) : stepsTop facts l set fact = ([], stepsErr facts l set fact) := by simp [stepsTop, h]
theorem stepsTop_hit {facts : Int} {l : Bk} {set r : List Int} {fact : Int} {k : Nat} (he : stepsErr facts l set fact = 0) (h : ∀ j, j < k → topAt facts l set fact j = none) (hk : k < facts.toNat + 1) (hr : topAt facts l set fact k = some r) : stepsTop facts l set fact = (r, 0) := by
  have : (List.range (facts.toNat + 1)).findSome? (topAt facts l set fact) = some r := findSome_hit h hk hr
  unfold topAt at this
  simp only [stepsTop, he, this]; simp
theorem stepsTop_none {facts : Int} {l : Bk} {set : List Int} {fact : Int} (he : stepsErr facts l set fact = 0) (h : ∀ j, j < facts.toNat + 1 → topAt facts l set fact j = none) : stepsTop facts l set fact = ([], 12) := by
  have : (List.range (facts.toNat + 1)).findSome? (topAt facts l set fact) = none := findSome_none h
  unfold topAt at this
  simp only [stepsTop, he, this]; simp
/-- steps carried out: the set and the error -/
def goesStep (facts : Int) (l : Bk) (s : List Int × Int) (i : Int) : List Int × Int :=
  if s.2 ≠ 0 then s else if inI i 0 (l.length - 1) = false then (s.1, 2) else if part (sAt l i.toNat).1 s.1 = false then (s.1, 12) else (joined facts s.1 (sAt l i.toNat).2, 0)
def goesR (facts : Int) (l : Bk) (set steps : List Int) : List Int × Int := steps.foldl (goesStep facts l) (set, asked facts l set)
def goesTop (facts : Int) (l : Bk) (set steps : List Int) : List Int × Int := if (goesR facts l set steps).2 ≠ 0 then ([], (goesR facts l set steps).2) else ((goesR facts l set steps).1, 0)

theorem listedAt_range {set : List Int} {facts : Int} {i : Nat} (h : listedAt set facts i = none) : inI (set.getD i 0) 0 (facts - 1) = true := by
  unfold listedAt at h
  split at h
  · cases h
  · rename_i h1; simpa using h1
theorem check_range {n : Int} {l : Bk} (h : check n l = 0) : 1 ≤ n ∧ n ≤ 6 := by
  unfold check at h
  split at h
  · cases h
  · rename_i h1; simpa [inI] using h1
theorem check_many {n : Int} {l : Bk} (h : check n l = 0) : l.length ≤ 8 := by
  unfold check at h
  split at h
  · cases h
  · split at h
    · cases h
    · omega
theorem asked_check {n : Int} {l : Bk} {set : List Int} (h : asked n l set = 0) : check n l = 0 := by
  unfold asked at h
  split at h
  · assumption
  · exact h
theorem asked_range {n : Int} {l : Bk} {set : List Int} (h : asked n l set = 0) : 1 ≤ n ∧ n ≤ 6 := check_range (asked_check h)
theorem asked_many {n : Int} {l : Bk} {set : List Int} (h : asked n l set = 0) : l.length ≤ 8 := check_many (asked_check h)
theorem joinedUpto_zero (a b : List Int) : joinedUpto a b 0 = [] := rfl
theorem joinedUpto_length (a b : List Int) (k : Nat) : (joinedUpto a b k).length ≤ k := by
  unfold joinedUpto
  refine Nat.le_trans (List.length_filter_le _ _) (by simp)
theorem joined_length (facts : Int) (a b : List Int) : (joined facts a b).length ≤ facts.toNat := by
  unfold joined joinedUpto
  refine Nat.le_trans (List.length_filter_le _ _) (by simp)
theorem goesR_succ (facts : Int) (l : Bk) (set : List Int) {steps : List Int} {k : Nat} {i : Int} (h : steps[k]? = some i) : goesR facts l set (steps.take (k + 1)) = goesStep facts l (goesR facts l set (steps.take k)) i := by
  unfold goesR; rw [take_succ_of h, List.foldl_append]; rfl
theorem goesR_err (facts : Int) (l : Bk) : ∀ (steps : List Int) (s : List Int × Int), s.2 ≠ 0 → steps.foldl (goesStep facts l) s = s
  | [], s, _ => rfl
  | i :: r, s, h => by
    rw [List.foldl_cons, show goesStep facts l s i = s by simp [goesStep, h]]
    exact goesR_err facts l r s h
theorem goesR_take (facts : Int) (l : Bk) (set steps : List Int) (k : Nat) (h : (goesR facts l set (steps.take k)).2 ≠ 0) : goesR facts l set steps = goesR facts l set (steps.take k) := by
  have e : steps = steps.take k ++ steps.drop k := (List.take_append_drop k steps).symm
  conv => lhs; rw [e]
  unfold goesR at *
  rw [List.foldl_append, goesR_err _ _ _ _ h]
theorem goesR_asked {facts : Int} {l : Bk} {set steps : List Int} (h : (goesR facts l set steps).2 = 0) : asked facts l set = 0 := by
  by_cases ha : asked facts l set = 0
  · exact ha
  · unfold goesR at h
    rw [goesR_err _ _ _ _ ha] at h
    exact h
end Go.V.R6
