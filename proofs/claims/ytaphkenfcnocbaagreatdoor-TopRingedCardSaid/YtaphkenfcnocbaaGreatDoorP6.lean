/-
  Plain models of the chapter's reference. Conditions: none.
  Plain models of the chapter's reference: checks, steps. Conditions: none.
-/
set_option linter.unusedVariables false
set_option linter.unusedSimpArgs false
set_option linter.deprecated false
namespace Go.V.R6

def inI (n lo hi : Int) : Bool := decide (lo ≤ n) && decide (n ≤ hi)
def part (a b : List Int) : Bool := a.all (b.contains ·)
def listedAt (set : List Int) (facts : Int) (i : Nat) : Option Int :=
  if inI (set.getD i 0) 0 (facts - 1) = false then some 2 else if 0 < i ∧ set.getD i 0 ≤ set.getD (i - 1) 0 then some 7 else none
def listed (set : List Int) (facts : Int) : Int := ((List.range set.length).findSome? (listedAt set facts)).getD 0
def sentErr (facts : Int) (s : List Int × List Int) : Int := if listed s.1 facts = 0 then listed s.2 facts else listed s.1 facts
def checkAt (facts : Int) (l : List (List Int × List Int)) (i : Nat) : Option Int := if sentErr facts (l.getD i ([], [])) = 0 then none else some (sentErr facts (l.getD i ([], [])))
def check (facts : Int) (l : List (List Int × List Int)) : Int :=
  if inI facts 1 6 = false then 1 else if 8 < l.length then 3 else ((List.range l.length).findSome? (checkAt facts l)).getD 0
def asked (facts : Int) (l : List (List Int × List Int)) (set : List Int) : Int := if check facts l = 0 then listed set facts else check facts l
def joinedUpto (a b : List Int) (k : Nat) : List Int := ((List.range k).map Int.ofNat).filter (fun n => a.contains n || b.contains n)
def joined (facts : Int) (a b : List Int) : List Int := joinedUpto a b facts.toNat

theorem findSome_none {α : Type} {f : Nat → Option α} {n : Nat} (h : ∀ j, j < n → f j = none) : (List.range n).findSome? f = none := by
  rw [List.findSome?_eq_none_iff]; intro x hx; exact h x (List.mem_range.1 hx)
theorem findSome_hit {α : Type} {f : Nat → Option α} {n k : Nat} {e : α} (h : ∀ j, j < k → f j = none) (hk : k < n) (he : f k = some e) : (List.range n).findSome? f = some e := by
  obtain ⟨m, rfl⟩ : ∃ m, n = k + 1 + m := ⟨n - (k + 1), by omega⟩
  rw [List.range_add, List.findSome?_append, List.range_succ, List.findSome?_append, findSome_none h]
  simp [he]
theorem below_succ {p : Nat → Prop} {k : Nat} (h : ∀ j, j < k → p j) (hk : p k) : ∀ j, j < k + 1 → p j := fun j hj => by
  by_cases e : j = k
  · exact e ▸ hk
  · exact h j (by omega)
theorem take_succ_of {α : Type} {l : List α} {k : Nat} {x : α} (h : l[k]? = some x) : l.take (k + 1) = l.take k ++ [x] := by
  rw [List.take_add_one, h]; rfl
end Go.V.R6

namespace Go.V.R6
abbrev Bk := List (List Int × List Int)
def sAt (l : Bk) (i : Nat) : List Int × List Int := l.getD i ([], [])
theorem check_range {n : Int} {l : Bk} (h : check n l = 0) : 1 ≤ n ∧ n ≤ 6 := by
  unfold check at h
  split at h
  · cases h
  · rename_i h1; simpa [inI] using h1
theorem check_many {n : Int} {l : Bk} (h : check n l = 0) : l.length ≤ 8 := by
  unfold check at h
  split at h
  · cases h
  · split at h
    · cases h
    · omega
theorem asked_check {n : Int} {l : Bk} {set : List Int} (h : asked n l set = 0) : check n l = 0 := by
  unfold asked at h
  split at h
  · assumption
  · exact h
end Go.V.R6
