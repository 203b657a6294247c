/-
  Chapter 02 in plain words: odd corners in a side; sides that are a proof; whether a map is even. Conditions: none.
  Chapter 02 in plain words: in an even map there are as many cuts of a proof as streets have to be gone twice (Seymour's theorem, by Sebo's proof). Conditions: none.
  Chapter 02, plain: a map whose first streets are a tree; how many sets are enough; the fewest streets make no ring. Conditions: none.
  Chapter 02, plain: the map that is drawn by numbers. Conditions: none.
-/
import Derived.Test.YthihkaohgencbaaDoorP2f
import Derived.Test.YthihkaohgencbaaDoorP2e
set_option linter.unusedVariables false
set_option linter.unusedSimpArgs false
set_option linter.deprecated false
namespace R2

theorem oddS_len {n : Nat} {L : G} (hv : Val n L) (h6 : n ≤ 6) (hl : L.length ≤ 9) {s : Nat} (hs : s < 2 ^ n) : oddS L s = decide ((ones (s &&& oddM L)).length % 2 = 1) := by
  unfold oddS ones
  rw [xs_sum hv, ← xl_len]
  have e := xl_range_le (k := n) (n := 9) (f := fun i => (s &&& oddM L).testBit i) (by omega) (fun i hi => by
    show (s &&& oddM L).testBit i = false
    rw [Nat.testBit_and, Nat.testBit_lt_two_pow (Nat.lt_of_lt_of_le hs (Nat.pow_le_pow_right (by decide) hi))]; rfl)
  refine Eq.trans ?_ e.symm
  apply xl_congr
  intro v _
  show _ = (s &&& oddM L).testBit v
  rw [Nat.testBit_and, oddM_bit hv hl]
/-- the error of sides, after some streets are used -/
def prvE (n : Nat) (L : G) : Nat → List (List Int) → Int
  | _, [] => 0
  | u, s :: ss => if sidedE n s ≠ 0 then sidedE n s else if oddS L (listedM n s) = false then 14 else if u &&& cutM L (listedM n s).testBit ≠ 0 then 6 else prvE n L (u ||| cutM L (listedM n s).testBit) ss
theorem sidedE_list {n : Nat} {l : List Int} (h : sidedE n l = 0) : lstE n (-1) l = 0 := by
  unfold sidedE at h
  split at h
  · assumption
  · exact h

/-! ### two sides -/
/-- one of the four steps for a street -/
def half (e : E) (j : Nat) (d : Nat × Nat) : Nat × Nat :=
  if j = 0 then (if d.1.testBit e.a then (d.1, d.2 ||| 2 ^ e.b) else d)
  else if j = 1 then (if d.1.testBit e.b then (d.1, d.2 ||| 2 ^ e.a) else d)
  else if j = 2 then (if d.2.testBit e.a then (d.1 ||| 2 ^ e.b, d.2) else d)
  else (if d.2.testBit e.b then (d.1 ||| 2 ^ e.a, d.2) else d)
def halfs (e : E) (d : Nat × Nat) : Nat → Nat × Nat
  | 0 => d
  | j + 1 => half e j (halfs e d j)
def evK (L : G) (d : Nat × Nat) : Nat → Nat × Nat
  | 0 => d
  | k + 1 => halfs (L.getD k default) (evK L d k) 4
def evR (L : G) : Nat → Nat × Nat
  | 0 => (1, 0)
  | k + 1 => evK L (evR L k) L.length
def evenB (n : Nat) (L : G) : Bool := (evR L n).1 &&& (evR L n).2 == 0
def Sub2 (d d' : Nat × Nat) : Prop := sub d.1 d'.1 = true ∧ sub d.2 d'.2 = true
theorem Sub2.refl (d : Nat × Nat) : Sub2 d d := ⟨sub_refl _, sub_refl _⟩
theorem Sub2.trans {a b c : Nat × Nat} (h : Sub2 a b) (k : Sub2 b c) : Sub2 a c := ⟨sub_trans h.1 k.1, sub_trans h.2 k.2⟩
/-- what keeps: corners are on the side of their colour -/
structure Fits (c : Nat → Bool) (d : Nat × Nat) : Prop where
  p : ∀ v, d.1.testBit v = true → c v = c 0
  q : ∀ v, d.2.testBit v = true → c v = !c 0
theorem half_lt {n : Nat} {e : E} (ha : e.a < n) (hb : e.b < n) (j : Nat) {d : Nat × Nat} (h : d.1 < 2 ^ n ∧ d.2 < 2 ^ n) : (half e j d).1 < 2 ^ n ∧ (half e j d).2 < 2 ^ n := by
  have pa : 2 ^ e.a < 2 ^ n := Nat.pow_lt_pow_right (by decide) ha
  have pb : 2 ^ e.b < 2 ^ n := Nat.pow_lt_pow_right (by decide) hb
  unfold half
  repeat' split
  all_goals first | exact h | exact ⟨h.1, Nat.or_lt_two_pow h.2 pb⟩ | exact ⟨h.1, Nat.or_lt_two_pow h.2 pa⟩ | exact ⟨Nat.or_lt_two_pow h.1 pb, h.2⟩ | exact ⟨Nat.or_lt_two_pow h.1 pa, h.2⟩
theorem halfs_lt {n : Nat} {e : E} (ha : e.a < n) (hb : e.b < n) {d : Nat × Nat} (h : d.1 < 2 ^ n ∧ d.2 < 2 ^ n) : ∀ j, (halfs e d j).1 < 2 ^ n ∧ (halfs e d j).2 < 2 ^ n
  | 0 => h
  | j + 1 => half_lt ha hb j (halfs_lt ha hb h j)
theorem evK_lt {n : Nat} {L : G} (hv : Val n L) {d : Nat × Nat} (h : d.1 < 2 ^ n ∧ d.2 < 2 ^ n) : ∀ k, k ≤ L.length → (evK L d k).1 < 2 ^ n ∧ (evK L d k).2 < 2 ^ n
  | 0, _ => h
  | k + 1, hk => by
    have := hv.get (i := k) (by omega)
    exact halfs_lt (by omega) this.2 (evK_lt hv h k (by omega)) 4
theorem evR_lt {n : Nat} {L : G} (h1 : 1 ≤ n) (hv : Val n L) : ∀ r, (evR L r).1 < 2 ^ n ∧ (evR L r).2 < 2 ^ n
  | 0 => ⟨Nat.one_lt_two_pow (by omega), Nat.two_pow_pos n⟩
  | r + 1 => evK_lt hv (evR_lt h1 hv r) _ (Nat.le_refl _)
end R2

namespace R2

/-! ### numbers and weights of sets of streets -/
def bx (X Y : Nat → Bool) : Nat → Bool := fun i => X i ^^ Y i
def one (i : Nat) : Nat → Bool := fun j => j == i
/-! ### ends of sets of streets -/
def Bd (n : Nat) (L : G) : Prop := ∀ e ∈ L, e.a < n ∧ e.b < n
theorem Bd.get {n : Nat} {L : G} (h : Bd n L) {i : Nat} (hi : i < L.length) : (st L i).a < n ∧ (st L i).b < n := by
  unfold st
  rw [List.getD_eq_getElem?_getD, List.getElem?_eq_getElem hi]
  exact h _ (List.getElem_mem hi)
abbrev bd (L : G) (X : Nat → Bool) (v : Nat) : Bool := xs L X (pt v)
theorem bd_one {L : G} {i : Nat} (hi : i < L.length) (v : Nat) : bd L (one i) v = (((st L i).a == v) ^^ ((st L i).b == v)) := xs_single hi (pt v)
/-- the part of a set within a side that no street of it leaves -/
def part (L : G) (X S : Nat → Bool) : Nat → Bool := fun i => X i && S (st L i).a
/-- the street's other end -/
theorem far {n : Nat} {L : G} (hb : Bd n L) {i s : Nat} (hi : i < L.length) (h : cross (st L i) (pt s) = true) : ∃ z, z < n ∧ z ≠ s ∧ (∀ v, bd L (one i) v = ((v == s) ^^ (v == z))) ∧ ((st L i).a = s ∧ (st L i).b = z ∨ (st L i).a = z ∧ (st L i).b = s) := by
  have hg := hb.get hi
  unfold cross pt at h
  by_cases h1 : (st L i).a = s
  · have h2 : (st L i).b ≠ s := by intro e; rw [h1, e] at h; simp at h
    refine ⟨(st L i).b, hg.2, h2, fun v => ?_, .inl ⟨h1, rfl⟩⟩
    rw [bd_one hi, h1, show (s == v) = (v == s) from Bool.beq_comm, show ((st L i).b == v) = (v == (st L i).b) from Bool.beq_comm]
  · have h2 : (st L i).b = s := Classical.byContradiction fun e => by
      rw [show ((st L i).a == s) = false by simpa using h1, show ((st L i).b == s) = false by simpa using e] at h; simp at h
    refine ⟨(st L i).a, hg.1, h1, fun v => ?_, .inr ⟨rfl, h2⟩⟩
    rw [bd_one hi, h2, show (s == v) = (v == s) from Bool.beq_comm, show ((st L i).a == v) = (v == (st L i).a) from Bool.beq_comm]
    exact Bool.xor_comm _ _
end R2

namespace R2

/-- the first streets lead each corner to a smaller one -/
structure Tree (n : Nat) (L : G) : Prop where
  val : Val n L
  len : n ≤ L.length + 1
  top : ∀ i, i + 1 < n → (st L i).b = i + 1

theorem Tree.lt {n : Nat} {L : G} (h : Tree n L) {i : Nat} (hi : i + 1 < n) : i < L.length ∧ (st L i).a < i + 1 := by
  have hl := h.len
  have h1 : i < L.length := by omega
  have := h.val.get h1
  have e := h.top i hi
  have this : (st L i).a < (st L i).b ∧ (st L i).b < n := this
  exact ⟨h1, by omega⟩
/-! ### the fewest streets make no ring -/
def lb (lab : List Nat) (v : Nat) : Nat := lab.getD v 0
theorem Rch.symm {L : G} {p : Nat → Bool} {u v : Nat} (h : Rch L p u v) : Rch L p v u := fun S hc hS => by
  have := h (fun x => !S x) (fun i hi hp => by simp only; rw [hc i hi hp])
  cases hu : S u with
  | true => rfl
  | false => rw [hu, hS] at this; exact absurd (this rfl) (by decide)
theorem Rch.trans {L : G} {p : Nat → Bool} {u v w : Nat} (h : Rch L p u v) (k : Rch L p v w) : Rch L p u w := fun S hc hS => k S hc (h S hc hS)
theorem Rch.mono {L : G} {p q : Nat → Bool} {u v : Nat} (h : Rch L p u v) (hs : ∀ i, p i = true → q i = true) : Rch L q u v := fun S hc hS => h S (fun i hi hp => hc i hi (hs i hp)) hS
theorem few_mem {n : Nat} {L : G} (ok : Ok n L) : ∃ m, m < 2 ^ L.length ∧ okJ L m = true ∧ fewM L = ones m := (fewM_best L).mem
end R2

namespace R2

def townN (A : List Nat) (cs : Nat) : Nat := 1 + A.getD 0 0 % cs
def upT (A : List Nat) (c : Nat) : Nat := A.getD (3 + c) 0 % c
/-- how far the corners are, as far as they have been done -/
def depT (A : List Nat) (n : Nat) : Nat → List Nat
  | 0 => List.replicate n 0
  | c + 1 => (depT A n c).set (c + 1) ((depT A n c).getD (upT A (c + 1)) 0 + 1)
theorem depT_length (A : List Nat) (n : Nat) : ∀ c, (depT A n c).length = n
  | 0 => by simp [depT]
  | c + 1 => by rw [depT, List.length_set, depT_length A n c]
theorem depT_le (A : List Nat) (n : Nat) : ∀ c i, (depT A n c).getD i 0 ≤ c
  | 0, i => by
    rw [depT, List.getD_eq_getElem?_getD]
    cases h : (List.replicate n 0)[i]? with
    | none => exact Nat.le_refl _
    | some x => have := List.mem_of_getElem? h; rw [List.mem_replicate] at this; simp [this.2]
  | c + 1, i => by
    rw [depT]
    have h1 := depT_le A n c i
    have h2 := depT_le A n c (upT A (c + 1))
    generalize depT A n c = D at *
    by_cases hi : i = c + 1
    · subst hi
      by_cases hl : c + 1 < D.length
      · rw [List.getD_eq_getElem?_getD, List.getElem?_set_self hl]; simp only [Option.getD_some]; omega
      · rw [List.getD_eq_getElem?_getD, List.getElem?_eq_none (by rw [List.length_set]; omega)]; simp
    · rw [List.getD_eq_getElem?_getD, List.getElem?_set_ne (by omega), ← List.getD_eq_getElem?_getD]; omega
def treeT (A : List Nat) (k : Nat) : G := (List.range k).map fun i => ⟨upT A (i + 1), i + 1⟩
theorem treeT_succ (A : List Nat) (k : Nat) : treeT A (k + 1) = treeT A k ++ [⟨upT A (k + 1), k + 1⟩] := by unfold treeT; rw [List.range_succ, List.map_append]; rfl
theorem treeT_length (A : List Nat) (k : Nat) : (treeT A k).length = k := by simp [treeT]
def addT (n most ev : Nat) (D : List Nat) (L : G) (x y : Nat) : G :=
  if x % n = y % n ∨ most ≤ L.length ∨ (ev % 2 = 1 ∧ (D.getD (x % n) 0 + D.getD (y % n) 0) % 2 = 0) then L else L ++ [⟨min (x % n) (y % n), max (x % n) (y % n)⟩]
def moreT (A : List Nat) (n most : Nat) : Nat → G
  | 0 => treeT A (n - 1)
  | k + 1 => addT n most (A.getD 2 0) (depT A n (n - 1)) (moreT A n most k) (A.getD (9 + 2 * k) 0) (A.getD (10 + 2 * k) 0)
def townL (A : List Nat) (cs most : Nat) : G := moreT A (townN A cs) most (A.getD 1 0 % 10)
theorem townN_le (A : List Nat) {cs : Nat} (h : 1 ≤ cs) : 1 ≤ townN A cs ∧ townN A cs ≤ cs := by
  have := Nat.mod_lt (A.getD 0 0) (show cs > 0 by omega)
  unfold townN; omega
theorem treeT_tree (A : List Nat) {n : Nat} (h1 : 1 ≤ n) : Tree n (treeT A (n - 1)) where
  val := fun e he => by
    obtain ⟨i, hi, rfl⟩ := List.mem_map.1 he
    have := List.mem_range.1 hi
    have h2 := Nat.mod_lt (A.getD (3 + (i + 1)) 0) (show i + 1 > 0 by omega)
    exact ⟨h2, by simp only; omega⟩
  len := by rw [treeT_length]; omega
  top := fun i hi => by
    unfold treeT st
    rw [List.getD_eq_getElem?_getD, List.getElem?_map, List.getElem?_range (by omega)]; rfl
theorem Tree.add {n : Nat} {L : G} (h : Tree n L) {e : E} (he : e.a < e.b ∧ e.b < n) : Tree n (L ++ [e]) where
  val := fun x hx => by
    rcases List.mem_append.1 hx with h2 | h2
    · exact h.val x h2
    · rw [List.mem_singleton.1 h2]; exact he
  len := by rw [List.length_append]; have := h.len; omega
  top := fun i hi => by
    have h2 := h.top i hi
    have hlt := (h.lt hi).1
    unfold st at *
    rw [List.getD_eq_getElem?_getD, List.getElem?_append_left hlt, ← List.getD_eq_getElem?_getD]; exact h2
theorem addT_tree {n most ev : Nat} {D : List Nat} {L : G} (h1 : 1 ≤ n) (h : Tree n L) (x y : Nat) : Tree n (addT n most ev D L x y) := by
  unfold addT
  split
  · exact h
  · rename_i hn
    have hx := Nat.mod_lt x (show n > 0 by omega)
    have hy := Nat.mod_lt y (show n > 0 by omega)
    exact h.add ⟨by simp only; omega, by simp only; omega⟩
theorem addT_len {n most ev : Nat} {D : List Nat} {L : G} (h : L.length ≤ most) (x y : Nat) : (addT n most ev D L x y).length ≤ most := by
  unfold addT
  split
  · exact h
  · rw [List.length_append, List.length_singleton]; omega
theorem moreT_tree (A : List Nat) {n most : Nat} (h1 : 1 ≤ n) (hm : n ≤ most + 1) : ∀ k, Tree n (moreT A n most k) ∧ (moreT A n most k).length ≤ most
  | 0 => ⟨treeT_tree A h1, by rw [moreT, treeT_length]; omega⟩
  | k + 1 => ⟨addT_tree h1 (moreT_tree A h1 hm k).1 _ _, addT_len (moreT_tree A h1 hm k).2 _ _⟩
theorem Tree.conn {n : Nat} {L : G} (h : Tree n L) : Conn n L := by
  intro S hS
  have key : ∀ v, v < n → S v = S 0 := by
    intro v
    induction v using Nat.strongRecOn with
    | ind v ih =>
      intro hv
      cases v with
      | zero => rfl
      | succ v =>
        obtain ⟨hl, ha⟩ := h.lt hv
        have hm : st L v ∈ L := by
          unfold st
          rw [List.getD_eq_getElem?_getD, List.getElem?_eq_getElem hl]; exact List.getElem_mem hl
        have := hS _ hm
        rw [h.top v hv, ih _ ha (by omega)] at this
        exact this.symm
  intro u v hu hv
  rw [key u hu, key v hv]
theorem Tree.ok {n : Nat} {L : G} (h : Tree n L) (h1 : 1 ≤ n) (h6 : n ≤ 6) (h9 : L.length ≤ 9) : Ok n L := ⟨h1, h6, h9, h.val, h.conn⟩
theorem town_tree (A : List Nat) {cs most : Nat} (h1 : 1 ≤ cs) (hm : cs ≤ most + 1) : Tree (townN A cs) (townL A cs most) ∧ (townL A cs most).length ≤ most := by
  obtain ⟨a, b⟩ := townN_le A h1
  exact moreT_tree A a (by omega) _
theorem town_ok (A : List Nat) {cs most : Nat} (h1 : 1 ≤ cs) (h6 : cs ≤ 6) (hm : cs ≤ most + 1) (h9 : most ≤ 9) : Ok (townN A cs) (townL A cs most) := by
  obtain ⟨a, b⟩ := townN_le A h1
  obtain ⟨c, d⟩ := town_tree A h1 hm
  exact c.ok a (by omega) (by omega)
end R2
