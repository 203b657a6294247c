/-
  Chapter 02 in plain words: odd corners in a side; sides that are a proof; whether a map is even. Conditions: none.
-/
import Derived.Test.YtpbhipbdgdpllaaDoorP2f
set_option linter.unusedVariables false
set_option linter.unusedSimpArgs false
set_option linter.deprecated false
namespace R2

theorem oddS_len {n : Nat} {L : G} (hv : Val n L) (h6 : n ≤ 6) (hl : L.length ≤ 9) {s : Nat} (hs : s < 2 ^ n) : oddS L s = decide ((ones (s &&& oddM L)).length % 2 = 1) := by
  unfold oddS ones
  rw [xs_sum hv, ← xl_len]
  have e := xl_range_le (k := n) (n := 9) (f := fun i => (s &&& oddM L).testBit i) (by omega) (fun i hi => by
    show (s &&& oddM L).testBit i = false
    rw [Nat.testBit_and, Nat.testBit_lt_two_pow (Nat.lt_of_lt_of_le hs (Nat.pow_le_pow_right (by decide) hi))]; rfl)
  refine Eq.trans ?_ e.symm
  apply xl_congr
  intro v _
  show _ = (s &&& oddM L).testBit v
  rw [Nat.testBit_and, oddM_bit hv hl]
/-- the error of sides, after some streets are used -/
def prvE (n : Nat) (L : G) : Nat → List (List Int) → Int
  | _, [] => 0
  | u, s :: ss => if sidedE n s ≠ 0 then sidedE n s else if oddS L (listedM n s) = false then 14 else if u &&& cutM L (listedM n s).testBit ≠ 0 then 6 else prvE n L (u ||| cutM L (listedM n s).testBit) ss
theorem sidedE_list {n : Nat} {l : List Int} (h : sidedE n l = 0) : lstE n (-1) l = 0 := by
  unfold sidedE at h
  split at h
  · assumption
  · exact h

/-! ### two sides -/
/-- one of the four steps for a street -/
def half (e : E) (j : Nat) (d : Nat × Nat) : Nat × Nat :=
  if j = 0 then (if d.1.testBit e.a then (d.1, d.2 ||| 2 ^ e.b) else d)
  else if j = 1 then (if d.1.testBit e.b then (d.1, d.2 ||| 2 ^ e.a) else d)
  else if j = 2 then (if d.2.testBit e.a then (d.1 ||| 2 ^ e.b, d.2) else d)
  else (if d.2.testBit e.b then (d.1 ||| 2 ^ e.a, d.2) else d)
def halfs (e : E) (d : Nat × Nat) : Nat → Nat × Nat
  | 0 => d
  | j + 1 => half e j (halfs e d j)
def evK (L : G) (d : Nat × Nat) : Nat → Nat × Nat
  | 0 => d
  | k + 1 => halfs (L.getD k default) (evK L d k) 4
def evR (L : G) : Nat → Nat × Nat
  | 0 => (1, 0)
  | k + 1 => evK L (evR L k) L.length
def evenB (n : Nat) (L : G) : Bool := (evR L n).1 &&& (evR L n).2 == 0
def Sub2 (d d' : Nat × Nat) : Prop := sub d.1 d'.1 = true ∧ sub d.2 d'.2 = true
theorem Sub2.refl (d : Nat × Nat) : Sub2 d d := ⟨sub_refl _, sub_refl _⟩
theorem Sub2.trans {a b c : Nat × Nat} (h : Sub2 a b) (k : Sub2 b c) : Sub2 a c := ⟨sub_trans h.1 k.1, sub_trans h.2 k.2⟩
/-- what keeps: corners are on the side of their colour -/
structure Fits (c : Nat → Bool) (d : Nat × Nat) : Prop where
  p : ∀ v, d.1.testBit v = true → c v = c 0
  q : ∀ v, d.2.testBit v = true → c v = !c 0
theorem half_lt {n : Nat} {e : E} (ha : e.a < n) (hb : e.b < n) (j : Nat) {d : Nat × Nat} (h : d.1 < 2 ^ n ∧ d.2 < 2 ^ n) : (half e j d).1 < 2 ^ n ∧ (half e j d).2 < 2 ^ n := by
  have pa : 2 ^ e.a < 2 ^ n := Nat.pow_lt_pow_right (by decide) ha
  have pb : 2 ^ e.b < 2 ^ n := Nat.pow_lt_pow_right (by decide) hb
  unfold half
  repeat' split
  all_goals first | exact h | exact ⟨h.1, Nat.or_lt_two_pow h.2 pb⟩ | exact ⟨h.1, Nat.or_lt_two_pow h.2 pa⟩ | exact ⟨Nat.or_lt_two_pow h.1 pb, h.2⟩ | exact ⟨Nat.or_lt_two_pow h.1 pa, h.2⟩
theorem halfs_lt {n : Nat} {e : E} (ha : e.a < n) (hb : e.b < n) {d : Nat × Nat} (h : d.1 < 2 ^ n ∧ d.2 < 2 ^ n) : ∀ j, (halfs e d j).1 < 2 ^ n ∧ (halfs e d j).2 < 2 ^ n
  | 0 => h
  | j + 1 => half_lt ha hb j (halfs_lt ha hb h j)
theorem evK_lt {n : Nat} {L : G} (hv : Val n L) {d : Nat × Nat} (h : d.1 < 2 ^ n ∧ d.2 < 2 ^ n) : ∀ k, k ≤ L.length → (evK L d k).1 < 2 ^ n ∧ (evK L d k).2 < 2 ^ n
  | 0, _ => h
  | k + 1, hk => by
    have := hv.get (i := k) (by omega)
    exact halfs_lt (by omega) this.2 (evK_lt hv h k (by omega)) 4
theorem evR_lt {n : Nat} {L : G} (h1 : 1 ≤ n) (hv : Val n L) : ∀ r, (evR L r).1 < 2 ^ n ∧ (evR L r).2 < 2 ^ n
  | 0 => ⟨Nat.one_lt_two_pow (by omega), Nat.two_pow_pos n⟩
  | r + 1 => evK_lt hv (evR_lt h1 hv r) _ (Nat.le_refl _)
end R2
