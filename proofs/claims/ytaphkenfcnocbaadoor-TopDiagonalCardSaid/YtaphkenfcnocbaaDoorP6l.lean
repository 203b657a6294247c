/-
  Plain models of functions of Go's library. Conditions: none.
-/
set_option linter.unusedVariables false
set_option linter.unusedSimpArgs false
set_option linter.deprecated false
namespace Go.V

def idxBy {α : Type} (p : α → Bool) (l : List α) : Int := match l.findIdx? p with
  | some i => (i : Int)
  | none => -1
theorem idxBy_none {α : Type} {p : α → Bool} {l : List α} (h : ∀ (j : Nat) x, l[j]? = some x → p x = false) : idxBy p l = -1 := by
  unfold idxBy
  have : l.findIdx? p = none := by
    rw [List.findIdx?_eq_none_iff]
    intro x hx
    obtain ⟨j, hj, rfl⟩ := List.getElem_of_mem hx
    exact h j _ (by simp [hj])
  rw [this]
theorem idxBy_hit {α : Type} {p : α → Bool} {l : List α} {k : Nat} {x : α} (h : ∀ j y, j < k → l[j]? = some y → p y = false) (hx : l[k]? = some x) (hp : p x = true) : idxBy p l = k := by
  unfold idxBy
  have hk : k < l.length := (List.getElem?_eq_some_iff.1 hx).1
  have hx' : l[k] = x := (List.getElem?_eq_some_iff.1 hx).2
  have : l.findIdx? p = some k := by
    rw [List.findIdx?_eq_some_iff_getElem]
    refine ⟨hk, by rw [hx']; exact hp, fun j hj => ?_⟩
    have := h j l[j] hj (by simp)
    simp [this]
  rw [this]
theorem idxBy_pos {α : Type} {p : α → Bool} {l : List α} : decide (0 ≤ idxBy p l) = l.any p := by
  unfold idxBy
  cases h : l.findIdx? p with
  | none =>
    rw [List.findIdx?_eq_none_iff] at h
    have : l.any p = false := by rw [List.any_eq_false]; intro x hx; simp [h x hx]
    rw [this]; rfl
  | some i =>
    rw [List.findIdx?_eq_some_iff_getElem] at h
    obtain ⟨hi, hp, _⟩ := h
    have : l.any p = true := List.any_eq_true.2 ⟨l[i], List.getElem_mem _, hp⟩
    rw [this]; simp
def cmpI (x y : Int) : Int := if x < y then -1 else if y < x then 1 else 0
def cmpL : List Int → List Int → Int
  | [], [] => 0
  | [], _ :: _ => -1
  | _ :: _, [] => 1
  | x :: a, y :: b => if cmpI x y ≠ 0 then cmpI x y else cmpL a b
theorem cmpL_cons (x y : Int) (a b : List Int) : cmpL (x :: a) (y :: b) = if cmpI x y ≠ 0 then cmpI x y else cmpL a b := rfl
theorem cmpL_nil (b : List Int) : cmpL [] b = if b = [] then 0 else -1 := by cases b <;> rfl
/-- a comparison that is a total order of some elements -/
structure Tot {α : Type} (c : α → α → Int) (l : List α) : Prop where
  anti : ∀ x ∈ l, ∀ y ∈ l, c x y < 0 → ¬ c y x < 0
  ntrans : ∀ x ∈ l, ∀ y ∈ l, ∀ z ∈ l, ¬ c x y < 0 → ¬ c y z < 0 → ¬ c x z < 0
  eq : ∀ x ∈ l, ∀ y ∈ l, ¬ c x y < 0 → ¬ c y x < 0 → x = y
theorem Tot.sub {α : Type} {c : α → α → Int} {l l' : List α} (h : Tot c l) (hs : ∀ x ∈ l', x ∈ l) : Tot c l' :=
  ⟨fun x hx y hy => h.anti x (hs x hx) y (hs y hy), fun x hx y hy z hz => h.ntrans x (hs x hx) y (hs y hy) z (hs z hz), fun x hx y hy => h.eq x (hs x hx) y (hs y hy)⟩
end Go.V
