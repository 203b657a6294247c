/-
  Plain chapter 07: what sets leave, step by step; the whole sets in their order. Conditions: none.
  Plain models of functions of Go's library. Conditions: none.
-/
import Derived.Test.YtnblnnfikpenpaaDoorP7c
set_option linter.unusedVariables false
set_option linter.unusedSimpArgs false
set_option linter.deprecated false
namespace R7

def wset (n : Nat) (L : List Int) (k : Nat) : List Nat := (whole n L k).map maskOf
theorem pow12 {d : Nat} (h : d ≤ 12) : 2 ^ d ≤ 4096 := by
  have : 2 ^ d ≤ 2 ^ 12 := Nat.pow_le_pow_right (by omega) h
  omega
theorem mem_sets {n : Nat} {L : List Int} {k m : Nat} : m ∈ sets n L k ↔ m < 2 ^ L.length ∧ leftU n L m = 0 ∧ (ones m).length = k := by
  simp [sets, List.mem_filter, Bool.and_eq_true]
theorem sets_nodup (n : Nat) (L : List Int) (k : Nat) : (sets n L k).Nodup := List.Pairwise.filter _ List.nodup_range
theorem wset_of {n : Nat} {L : List Int} {k : Nat} (hL : L.length ≤ 12) {w : List Nat} (hp : w.Perm (sets n L k)) (hs : w.Pairwise fun a b => before a b = true) : w = wset n L k := by
  unfold wset
  rw [← whole_sets hL hp hs, List.map_map]
  symm
  have : ∀ m ∈ w, (maskOf ∘ ones) m = m := fun m hm => by
    have h := mem_sets.1 (hp.mem_iff.1 hm)
    exact maskOf_ones (by have := pow12 hL; omega)
  rw [List.map_congr_left this]; simp
theorem whole_mem12 {n : Nat} {L : List Int} {k : Nat} (hL : L.length ≤ 12) {l : List Nat} (h : l ∈ whole n L k) : l.Pairwise (· < ·) ∧ (∀ x ∈ l, x < L.length) ∧ l.length = k := by
  have h := (List.mem_filter.1 h).1
  rw [mem_combs] at h
  exact ⟨h.2.1, fun x hx => by have := h.2.2 x hx; omega, h.1⟩
theorem wset_ones {n : Nat} {L : List Int} {k : Nat} (hL : L.length ≤ 12) : (wset n L k).map ones = whole n L k := by
  unfold wset
  rw [List.map_map]
  have : ∀ l ∈ whole n L k, (ones ∘ maskOf) l = l := fun l hl => by
    have h := whole_mem12 hL hl
    exact ones_maskOf h.1 fun x hx => by have := h.2.1 x hx; omega
  rw [List.map_congr_left this]; simp
theorem wset_lt {n : Nat} {L : List Int} {k m : Nat} (hL : L.length ≤ 12) (h : m ∈ wset n L k) : m < 2 ^ L.length := by
  unfold wset at h
  obtain ⟨l, hl, rfl⟩ := List.mem_map.1 h
  exact maskOf_lt (whole_mem12 hL hl).2.1
theorem wset_len {n : Nat} {L : List Int} {k m : Nat} (hL : L.length ≤ 12) (h : m ∈ wset n L k) : (ones m).length = k := by
  have h1 : ones m ∈ (wset n L k).map ones := List.mem_map.2 ⟨m, h, rfl⟩
  rw [wset_ones hL] at h1
  exact (whole_mem12 hL h1).2.2
theorem wset_length (n : Nat) (L : List Int) (k : Nat) : (wset n L k).length = (whole n L k).length := by simp [wset]
theorem nodup_lt : ∀ (n : Nat) (l : List Nat), l.Nodup → (∀ x ∈ l, x < n) → l.length ≤ n
  | 0, l, _, h => by cases l with
    | nil => simp
    | cons x l => have := h x (by simp); omega
  | n + 1, l, hn, h => by
    have h1 : (l.erase n).Nodup := hn.erase n
    have h2 := nodup_lt n (l.erase n) h1 (fun x hx => by
      have hx' := List.mem_of_mem_erase hx
      have hne : x ≠ n := fun e => by subst e; exact hn.not_mem_erase hx
      have := h x hx'; omega)
    have h3 := List.length_erase (a := n) (l := l)
    rw [h3] at h2
    split at h2 <;> omega
theorem wset_size {n : Nat} {L : List Int} {k : Nat} (hL : L.length ≤ 12) : (wset n L k).length ≤ 2 ^ L.length := by
  have hn : (wset n L k).Nodup := by
    have : ((wset n L k).map ones).Nodup := by
      rw [wset_ones hL]
      have := whole_asc n L k
      exact List.Pairwise.imp (fun {a b} h e => by subst e; rw [lexB_irrefl] at h; cases h) this
    exact List.Pairwise.of_map ones (fun a b h e => h (by rw [e])) this
  exact nodup_lt _ _ hn fun m hm => wset_lt hL hm

/-! ### one load more -/
theorem wt_append (L : List Int) (a b : List Nat) : wt L (a ++ b) = wt L a + wt L b := by simp [wt]
theorem log2_pow_le {m : Nat} (h0 : m ≠ 0) : 2 ^ Nat.log2 m ≤ m := Nat.log2_self_le h0
theorem leftU_zero (n : Nat) (L : List Int) : leftU n L 0 = 0 := by unfold leftU; rw [ones_zero]; simp [wt_nil]
theorem leftU_step {n : Nat} (L : List Int) {m : Nat} (h : m < 4096) (h0 : m ≠ 0) : leftU n L m = (leftU n L (m - 2 ^ Nat.log2 m) + L.getD (Nat.log2 m) 0) % n := by
  unfold leftU
  rw [ones_top m h h0, wt_append, wt_cons, wt_nil, Int.add_zero, Int.emod_add_emod]
theorem leftU_lt {n : Nat} (hn : 0 < n) (L : List Int) (m : Nat) : 0 ≤ leftU n L m ∧ leftU n L m < n := ⟨Int.emod_nonneg _ (by omega), Int.emod_lt_of_pos _ (by omega)⟩

/-! ### the order by bits -/
theorem bit_lex {a b k : Nat} (ha : a < 4096) (hb : b < 4096) (hka : (ones a).length = k) (hkb : (ones b).length = k) : bitB a b = lexB (ones a) (ones b) := by
  rw [bitB_eq ha hb (hka.trans hkb.symm)]; rfl
end R7

namespace Go.V

def idxBy {α : Type} (p : α → Bool) (l : List α) : Int := match l.findIdx? p with
  | some i => (i : Int)
  | none => -1
theorem idxBy_none {α : Type} {p : α → Bool} {l : List α} (h : ∀ (j : Nat) x, l[j]? = some x → p x = false) : idxBy p l = -1 := by
  unfold idxBy
  have : l.findIdx? p = none := by
    rw [List.findIdx?_eq_none_iff]
    intro x hx
    obtain ⟨j, hj, rfl⟩ := List.getElem_of_mem hx
    exact h j _ (by simp [hj])
  rw [this]
theorem idxBy_hit {α : Type} {p : α → Bool} {l : List α} {k : Nat} {x : α} (h : ∀ j y, j < k → l[j]? = some y → p y = false) (hx : l[k]? = some x) (hp : p x = true) : idxBy p l = k := by
  unfold idxBy
  have hk : k < l.length := (List.getElem?_eq_some_iff.1 hx).1
  have hx' : l[k] = x := (List.getElem?_eq_some_iff.1 hx).2
  have : l.findIdx? p = some k := by
    rw [List.findIdx?_eq_some_iff_getElem]
    refine ⟨hk, by rw [hx']; exact hp, fun j hj => ?_⟩
    have := h j l[j] hj (by simp)
    simp [this]
  rw [this]
theorem idxBy_pos {α : Type} {p : α → Bool} {l : List α} : decide (0 ≤ idxBy p l) = l.any p := by
  unfold idxBy
  cases h : l.findIdx? p with
  | none =>
    rw [List.findIdx?_eq_none_iff] at h
    have : l.any p = false := by rw [List.any_eq_false]; intro x hx; simp [h x hx]
    rw [this]; rfl
  | some i =>
    rw [List.findIdx?_eq_some_iff_getElem] at h
    obtain ⟨hi, hp, _⟩ := h
    have : l.any p = true := List.any_eq_true.2 ⟨l[i], List.getElem_mem _, hp⟩
    rw [this]; simp
def cmpI (x y : Int) : Int := if x < y then -1 else if y < x then 1 else 0
def cmpL : List Int → List Int → Int
  | [], [] => 0
  | [], _ :: _ => -1
  | _ :: _, [] => 1
  | x :: a, y :: b => if cmpI x y ≠ 0 then cmpI x y else cmpL a b
theorem cmpL_cons (x y : Int) (a b : List Int) : cmpL (x :: a) (y :: b) = if cmpI x y ≠ 0 then cmpI x y else cmpL a b := rfl
/-- a comparison that is a total order of some elements -/
structure Tot {α : Type} (c : α → α → Int) (l : List α) : Prop where
  anti : ∀ x ∈ l, ∀ y ∈ l, c x y < 0 → ¬ c y x < 0
  ntrans : ∀ x ∈ l, ∀ y ∈ l, ∀ z ∈ l, ¬ c x y < 0 → ¬ c y z < 0 → ¬ c x z < 0
  eq : ∀ x ∈ l, ∀ y ∈ l, ¬ c x y < 0 → ¬ c y x < 0 → x = y
theorem Tot.sub {α : Type} {c : α → α → Int} {l l' : List α} (h : Tot c l) (hs : ∀ x ∈ l', x ∈ l) : Tot c l' :=
  ⟨fun x hx y hy => h.anti x (hs x hx) y (hs y hy), fun x hx y hy z hz => h.ntrans x (hs x hx) y (hs y hy) z (hs z hz), fun x hx y hy => h.eq x (hs x hx) y (hs y hy)⟩
end Go.V
