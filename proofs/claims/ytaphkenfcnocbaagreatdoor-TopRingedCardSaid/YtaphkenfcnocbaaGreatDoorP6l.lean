/-
  Plain models of functions of Go's library. Conditions: none.
-/
set_option linter.unusedVariables false
set_option linter.unusedSimpArgs false
set_option linter.deprecated false
namespace Go.V

def idxBy {α : Type} (p : α → Bool) (l : List α) : Int := match l.findIdx? p with
  | some i => (i : Int)
  | none => -1
theorem idxBy_none {α : Type} {p : α → Bool} {l : List α} (h : ∀ (j : Nat) x, l[j]? = some x → p x = false) : idxBy p l = -1 := by
  unfold idxBy
  have : l.findIdx? p = none := by
    rw [List.findIdx?_eq_none_iff]
    intro x hx
    obtain ⟨j, hj, rfl⟩ := List.getElem_of_mem hx
    exact h j _ (by simp [hj])
  rw [this]
theorem idxBy_hit {α : Type} {p : α → Bool} {l : List α} {k : Nat} {x : α} (h : ∀ j y, j < k → l[j]? = some y → p y = false) (hx : l[k]? = some x) (hp : p x = true) : idxBy p l = k := by
  unfold idxBy
  have hk : k < l.length := (List.getElem?_eq_some_iff.1 hx).1
  have hx' : l[k] = x := (List.getElem?_eq_some_iff.1 hx).2
  have : l.findIdx? p = some k := by
    rw [List.findIdx?_eq_some_iff_getElem]
    refine ⟨hk, by rw [hx']; exact hp, fun j hj => ?_⟩
    have := h j l[j] hj (by simp)
    simp [this]
  rw [this]
theorem idxBy_pos {α : Type} {p : α → Bool} {l : List α} : decide (0 ≤ idxBy p l) = l.any p := by
  unfold idxBy
  cases h : l.findIdx? p with
  | none =>
    rw [List.findIdx?_eq_none_iff] at h
    have : l.any p = false := by rw [List.any_eq_false]; intro x hx; simp [h x hx]
    rw [this]; rfl
  | some i =>
    rw [List.findIdx?_eq_some_iff_getElem] at h
    obtain ⟨hi, hp, _⟩ := h
    have : l.any p = true := List.any_eq_true.2 ⟨l[i], List.getElem_mem _, hp⟩
    rw [this]; simp
def cmpI (x y : Int) : Int := if x < y then -1 else if y < x then 1 else 0
def cmpL : List Int → List Int → Int
  | [], [] => 0
  | [], _ :: _ => -1
  | _ :: _, [] => 1
  | x :: a, y :: b => if cmpI x y ≠ 0 then cmpI x y else cmpL a b
theorem cmpL_cons (x y : Int) (a b : List Int) : cmpL (x :: a) (y :: b) = if cmpI x y ≠ 0 then cmpI x y else cmpL a b := rfl
theorem cmpL_nil (b : List Int) : cmpL [] b = if b = [] then 0 else -1 := by cases b <;> rfl
theorem cmpI_eq {x y : Int} : cmpI x y = 0 ↔ x = y := by unfold cmpI; split <;> (try split) <;> omega
theorem cmpI_lt {x y : Int} : cmpI x y < 0 ↔ x < y := by unfold cmpI; split <;> (try split) <;> omega
theorem cmpL_eq : ∀ {a b : List Int}, cmpL a b = 0 ↔ a = b
  | [], [] => by simp [cmpL]
  | [], _ :: _ => by simp [cmpL]
  | _ :: _, [] => by simp [cmpL]
  | x :: a, y :: b => by
    rw [cmpL_cons]
    split
    · rename_i h
      constructor
      · intro h'; exact absurd h' h
      · intro h'; simp at h'; exact absurd (cmpI_eq.2 h'.1) h
    · rename_i h
      have h : cmpI x y = 0 := Classical.not_not.1 h
      rw [cmpL_eq, cmpI_eq.1 h]; simp
theorem cmpL_refl (a : List Int) : cmpL a a = 0 := cmpL_eq.2 rfl
theorem cmpL_lt_trans : ∀ {a b c : List Int}, cmpL a b < 0 → cmpL b c < 0 → cmpL a c < 0
  | [], [], _, h, _ => by simp [cmpL] at h
  | [], _ :: _, [], _, h => by simp [cmpL] at h
  | [], _ :: _, _ :: _, _, _ => by simp [cmpL]
  | _ :: _, [], _, h, _ => by simp [cmpL] at h
  | _ :: _, _ :: _, [], _, h => by simp [cmpL] at h
  | x :: a, y :: b, z :: c, h, k => by
    rw [cmpL_cons] at *
    by_cases h1 : cmpI x y = 0
    · rw [if_neg (by simp [h1])] at h
      rw [← cmpI_eq.1 h1] at k
      by_cases h2 : cmpI x z = 0
      · rw [if_neg (by simp [h2])] at k ⊢
        exact cmpL_lt_trans h k
      · rw [if_pos h2] at k ⊢; exact k
    · rw [if_pos h1] at h
      have h := cmpI_lt.1 h
      by_cases h2 : cmpI y z = 0
      · have := cmpI_eq.1 h2; subst this
        rw [if_pos h1]; exact cmpI_lt.2 h
      · rw [if_pos h2] at k
        have k := cmpI_lt.1 k
        have : cmpI x z ≠ 0 := fun e => by have := cmpI_eq.1 e; omega
        rw [if_pos this]; exact cmpI_lt.2 (by omega)
theorem cmpL_anti : ∀ (a b : List Int), cmpL b a = - cmpL a b
  | [], [] => rfl
  | [], _ :: _ => rfl
  | _ :: _, [] => rfl
  | x :: a, y :: b => by
    have h : cmpI y x = - cmpI x y := by unfold cmpI; repeat' split
                                         all_goals omega
    rw [cmpL_cons, cmpL_cons, h, cmpL_anti a b]
    split <;> split <;> omega
theorem cmpL_ntrans {a b c : List Int} (h : ¬ cmpL a b < 0) (k : ¬ cmpL b c < 0) : ¬ cmpL a c < 0 := by
  intro hac
  have h1 := cmpL_anti a b
  have h2 := cmpL_anti b c
  by_cases e1 : cmpL a b = 0
  · rw [cmpL_eq.1 e1] at hac; exact k hac
  · by_cases e2 : cmpL b c = 0
    · rw [← cmpL_eq.1 e2] at hac; exact h hac
    · have := cmpL_lt_trans (a := c) (b := b) (c := a) (by omega) (by omega)
      have h3 := cmpL_anti a c
      omega
/-- sorting by insertion -/
def ins {α : Type} (c : α → α → Int) (x : α) : List α → List α
  | [] => [x]
  | y :: l => if c y x < 0 then y :: ins c x l else x :: y :: l
def isort {α : Type} (c : α → α → Int) : List α → List α
  | [] => []
  | x :: l => ins c x (isort c l)
theorem ins_perm {α : Type} (c : α → α → Int) (x : α) : ∀ l : List α, (ins c x l).Perm (x :: l)
  | [] => .refl _
  | y :: l => by
    unfold ins
    split
    · exact ((ins_perm c x l).cons y).trans (.swap x y l)
    · exact .refl _
theorem isort_perm {α : Type} (c : α → α → Int) : ∀ l : List α, (isort c l).Perm l
  | [] => .refl _
  | x :: l => (ins_perm c x _).trans ((isort_perm c l).cons x)
/-- a comparison that is a total order of some elements -/
structure Tot {α : Type} (c : α → α → Int) (l : List α) : Prop where
  anti : ∀ x ∈ l, ∀ y ∈ l, c x y < 0 → ¬ c y x < 0
  ntrans : ∀ x ∈ l, ∀ y ∈ l, ∀ z ∈ l, ¬ c x y < 0 → ¬ c y z < 0 → ¬ c x z < 0
  eq : ∀ x ∈ l, ∀ y ∈ l, ¬ c x y < 0 → ¬ c y x < 0 → x = y
theorem Tot.sub {α : Type} {c : α → α → Int} {l l' : List α} (h : Tot c l) (hs : ∀ x ∈ l', x ∈ l) : Tot c l' :=
  ⟨fun x hx y hy => h.anti x (hs x hx) y (hs y hy), fun x hx y hy z hz => h.ntrans x (hs x hx) y (hs y hy) z (hs z hz), fun x hx y hy => h.eq x (hs x hx) y (hs y hy)⟩
theorem ins_sorted {α : Type} {c : α → α → Int} {x : α} : ∀ {l : List α}, Tot c (x :: l) → l.Pairwise (fun x y => ¬ c y x < 0) → (ins c x l).Pairwise (fun x y => ¬ c y x < 0)
  | [], _, _ => by simp [ins]
  | y :: l, h, hp => by
    rw [List.pairwise_cons] at hp
    unfold ins
    split
    · rename_i hlt
      rw [List.pairwise_cons]
      refine ⟨fun z hz => ?_, ins_sorted (h.sub (by intro z hz; simp at hz ⊢; rcases hz with hz | hz <;> simp [hz])) hp.2⟩
      rcases List.mem_cons.1 ((ins_perm c x l).mem_iff.1 hz) with rfl | hz
      · exact h.anti y (by simp) z (by simp) hlt
      · exact hp.1 z hz
    · rename_i hlt
      rw [List.pairwise_cons]
      refine ⟨fun z hz => ?_, List.pairwise_cons.2 hp⟩
      rcases List.mem_cons.1 hz with rfl | hz
      · exact hlt
      · exact h.ntrans z (by simp [hz]) y (by simp) x (by simp) (hp.1 z hz) hlt
theorem isort_sorted {α : Type} {c : α → α → Int} : ∀ {l : List α}, Tot c l → (isort c l).Pairwise (fun x y => ¬ c y x < 0)
  | [], _ => .nil
  | x :: l, h => ins_sorted (h.sub fun z hz => by
      rcases List.mem_cons.1 hz with rfl | hz
      · simp
      · simp [(isort_perm c l).mem_iff.1 hz]) (isort_sorted (h.sub fun z hz => by simp [hz]))
theorem sorted_unique {α : Type} {c : α → α → Int} : ∀ {l l' : List α}, Tot c l → l'.Perm l → l.Pairwise (fun x y => ¬ c y x < 0) → l'.Pairwise (fun x y => ¬ c y x < 0) → l' = l
  | [], l', _, hp, _, _ => List.perm_nil.1 hp
  | x :: l, [], _, hp, _, _ => by have := hp.length_eq; simp at this
  | x :: l, y :: l', h, hp, h1, h2 => by
    rw [List.pairwise_cons] at h1 h2
    have hy : y ∈ x :: l := hp.mem_iff.1 (by simp)
    have hx : x ∈ y :: l' := hp.mem_iff.2 (by simp)
    have e : y = x := by
      rcases List.mem_cons.1 hy with e | hy'
      · exact e
      · rcases List.mem_cons.1 hx with e | hx'
        · exact e.symm
        · exact h.eq y (by simp [hy']) x (by simp) (h1.1 y hy') (h2.1 x hx')
    subst e
    have hp' : l'.Perm l := List.Perm.cons_inv hp
    rw [sorted_unique (h.sub fun z hz => by simp [hz]) hp' h1.2 h2.2]
theorem isort_unique {α : Type} {c : α → α → Int} {l l' : List α} (h : Tot c l) (hp : l'.Perm l) (hs : l'.Pairwise (fun x y => ¬ c y x < 0)) : l' = isort c l :=
  sorted_unique (h.sub fun z hz => (isort_perm c l).mem_iff.1 hz) (hp.trans (isort_perm c l).symm) (isort_sorted h) hs
end Go.V
