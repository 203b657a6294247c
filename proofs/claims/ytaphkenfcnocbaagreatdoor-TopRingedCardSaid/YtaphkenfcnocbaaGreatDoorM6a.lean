/-
  Plain laws of sets as numbers, closed sets, and what follows. Conditions: none.
-/
set_option linter.unusedVariables false
set_option linter.unusedSimpArgs false
set_option linter.deprecated false
namespace Go.V.R6

def sub (a b : Nat) : Bool := (a &&& b) == a
def dif (a b : Nat) : Nat := a ^^^ (a &&& b)

theorem sub_iff {a b : Nat} : sub a b = true ↔ ∀ i, a.testBit i = true → b.testBit i = true := by
  unfold sub
  rw [beq_iff_eq]
  constructor
  · intro h i hi
    have := congrArg (Nat.testBit · i) h
    simp only [Nat.testBit_and, hi, Bool.true_and] at this
    exact this
  · intro h
    apply Nat.eq_of_testBit_eq
    intro i
    rw [Nat.testBit_and]
    cases ha : a.testBit i
    · rfl
    · simp [h i ha]
theorem sub_refl (a : Nat) : sub a a = true := sub_iff.2 fun _ h => h
theorem sub_trans {a b c : Nat} (h : sub a b = true) (k : sub b c = true) : sub a c = true := sub_iff.2 fun i hi => sub_iff.1 k i (sub_iff.1 h i hi)
theorem sub_antisymm {a b : Nat} (h : sub a b = true) (k : sub b a = true) : a = b := by
  apply Nat.eq_of_testBit_eq; intro i
  have h1 := sub_iff.1 h i; have h2 := sub_iff.1 k i
  cases ha : a.testBit i <;> cases hb : b.testBit i <;> simp_all
theorem sub_or_left (a b : Nat) : sub a (a ||| b) = true := sub_iff.2 fun i hi => by simp [Nat.testBit_or, hi]
theorem sub_or_right (a b : Nat) : sub b (a ||| b) = true := sub_iff.2 fun i hi => by simp [Nat.testBit_or, hi]
theorem or_sub {a b c : Nat} (h : sub a c = true) (k : sub b c = true) : sub (a ||| b) c = true := sub_iff.2 fun i hi => by
  rw [Nat.testBit_or, Bool.or_eq_true] at hi
  rcases hi with hi | hi
  · exact sub_iff.1 h i hi
  · exact sub_iff.1 k i hi
theorem sub_of_or_eq {a b : Nat} (h : a ||| b = a) : sub b a = true := by rw [← h]; exact sub_or_right a b
theorem sub_le {a b : Nat} (h : sub a b = true) : a ≤ b := by
  unfold sub at h; rw [beq_iff_eq] at h; rw [← h]; exact Nat.and_le_right
theorem sub_lt {a b : Nat} (h : sub a b = true) (hne : a ≠ b) : a < b := Nat.lt_of_le_of_ne (sub_le h) hne
theorem dif_eq_zero {a b : Nat} : (dif a b == 0) = sub a b := by
  unfold dif sub
  rw [Bool.eq_iff_iff, beq_iff_eq, beq_iff_eq]
  constructor
  · intro h
    apply Nat.eq_of_testBit_eq; intro i
    have := congrArg (Nat.testBit · i) h
    simp only [Nat.testBit_xor, Nat.zero_testBit] at this
    cases h1 : a.testBit i <;> cases h2 : (a &&& b).testBit i <;> simp_all
  · intro h; rw [h, Nat.xor_self]
theorem dif_testBit (a b i : Nat) : (dif a b).testBit i = (a.testBit i && !b.testBit i) := by
  unfold dif; rw [Nat.testBit_xor, Nat.testBit_and]; cases a.testBit i <;> cases b.testBit i <;> rfl
theorem testBit_lt {m n i : Nat} (h : m < 2 ^ n) (hi : m.testBit i = true) : i < n := by
  rcases Nat.lt_or_ge i n with h' | h'
  · exact h'
  · rw [Nat.testBit_lt_two_pow (Nat.lt_of_lt_of_le h (Nat.pow_le_pow_right (by omega) h'))] at hi; cases hi
theorem full_testBit (n i : Nat) : (2 ^ n - 1).testBit i = decide (i < n) := Nat.testBit_two_pow_sub_one n i
theorem sub_full {m n : Nat} (h : m < 2 ^ n) : sub m (2 ^ n - 1) = true := sub_iff.2 fun i hi => by
  rw [full_testBit, decide_eq_true_eq]; exact testBit_lt h hi
theorem lt_of_sub {a b n : Nat} (h : sub a b = true) (hb : b < 2 ^ n) : a < 2 ^ n := Nat.lt_of_le_of_lt (sub_le h) hb
theorem lt_of_bits {m n : Nat} (h : ∀ i, m.testBit i = true → i < n) : m < 2 ^ n :=
  Nat.lt_pow_two_of_testBit m fun i hi => by
    cases hm : m.testBit i
    · rfl
    · have := h i hm; omega

abbrev Rs := List (Nat × Nat)
def closedM (L : Rs) (s : Nat) : Bool := L.all fun r => !(sub r.1 s) || sub r.2 s
theorem closedM_iff {L : Rs} {s : Nat} : closedM L s = true ↔ ∀ r ∈ L, sub r.1 s = true → sub r.2 s = true := by
  unfold closedM
  rw [List.all_eq_true]
  constructor
  · intro h r hr hs; have := h r hr; simp only [hs, Bool.not_true, Bool.false_or] at this; exact this
  · intro h r hr
    cases hs : sub r.1 s
    · rfl
    · simp [h r hr hs]
/-- the numbers of the sentences fit -/
def Ok (L : Rs) (n : Nat) : Prop := ∀ r ∈ L, r.1 < 2 ^ n ∧ r.2 < 2 ^ n
theorem closed_full {L : Rs} {n : Nat} (h : Ok L n) : closedM L (2 ^ n - 1) = true := closedM_iff.2 fun r hr _ => sub_full (h r hr).2
/-- what follows: what all closed sets that have a set have in common -/
def clo (L : Rs) (n f : Nat) : Nat := (List.range (2 ^ n)).foldl (fun out c => if sub f c && closedM L c then out &&& c else out) (2 ^ n - 1)

theorem fold_and {p : Nat → Bool} : ∀ (l : List Nat) (out i : Nat), (l.foldl (fun out c => if p c then out &&& c else out) out).testBit i = true ↔ out.testBit i = true ∧ ∀ c ∈ l, p c = true → c.testBit i = true
  | [], out, i => by simp
  | c :: l, out, i => by
    rw [List.foldl_cons, fold_and l]
    cases hp : p c
    · simp [hp]
    · simp [hp, Nat.testBit_and, and_assoc]
theorem clo_bit {L : Rs} {n f i : Nat} : (clo L n f).testBit i = true ↔ i < n ∧ ∀ c, c < 2 ^ n → sub f c = true → closedM L c = true → c.testBit i = true := by
  unfold clo
  rw [fold_and (p := fun c => sub f c && closedM L c), full_testBit, decide_eq_true_eq]
  simp only [List.mem_range, Bool.and_eq_true, and_imp]
theorem clo_lt (L : Rs) (n f : Nat) : clo L n f < 2 ^ n := lt_of_bits fun i hi => (clo_bit.1 hi).1
theorem sub_clo {L : Rs} {n f : Nat} (hf : f < 2 ^ n) : sub f (clo L n f) = true := sub_iff.2 fun i hi => clo_bit.2 ⟨testBit_lt hf hi, fun _ _ hc _ => sub_iff.1 hc i hi⟩
theorem clo_min {L : Rs} {n f c : Nat} (hc : c < 2 ^ n) (h : sub f c = true) (hcl : closedM L c = true) : sub (clo L n f) c = true := sub_iff.2 fun i hi => (clo_bit.1 hi).2 c hc h hcl
theorem clo_closed {L : Rs} {n f : Nat} (h : Ok L n) : closedM L (clo L n f) = true := closedM_iff.2 fun r hr hs => sub_iff.2 fun i hi => clo_bit.2 ⟨testBit_lt (h r hr).2 hi, fun c hc hfc hcl =>
  sub_iff.1 (closedM_iff.1 hcl r hr (sub_trans hs (clo_min hc hfc hcl))) i hi⟩
/-- one round of all sentences -/
def roundM (L : Rs) (f : Nat) : Nat := L.foldl (fun f r => if sub r.1 f then f ||| r.2 else f) f
theorem round_sub : ∀ (L : Rs) (f : Nat), sub f (roundM L f) = true
  | [], f => sub_refl f
  | r :: L, f => by
    unfold roundM; rw [List.foldl_cons]
    have := round_sub L (if sub r.1 f then f ||| r.2 else f)
    refine sub_trans ?_ this
    split
    · exact sub_or_left _ _
    · exact sub_refl _
theorem round_le {c : Nat} : ∀ {L : Rs} {f : Nat}, closedM L c = true → sub f c = true → sub (roundM L f) c = true
  | [], f, _, hs => hs
  | r :: L, f, hc, hs => by
    have hc' := closedM_iff.1 hc
    unfold roundM; rw [List.foldl_cons]
    refine round_le (closedM_iff.2 fun q hq => hc' q (List.mem_cons_of_mem _ hq)) ?_
    split
    · rename_i hr; exact or_sub hs (hc' r List.mem_cons_self (sub_trans hr hs))
    · exact hs
theorem round_fix : ∀ {L : Rs} {f : Nat}, roundM L f = f → closedM L f = true
  | [], f, _ => rfl
  | r :: L, f, h => by
    unfold roundM at h; rw [List.foldl_cons] at h
    have h1 := round_sub L (if sub r.1 f then f ||| r.2 else f)
    unfold roundM at h1
    rw [h] at h1
    by_cases hr : sub r.1 f = true
    · rw [if_pos hr] at h h1
      have e : f ||| r.2 = f := sub_antisymm h1 (sub_or_left _ _)
      rw [e] at h
      refine closedM_iff.2 fun q hq hs => ?_
      rcases List.mem_cons.1 hq with rfl | hq
      · exact sub_of_or_eq e
      · exact closedM_iff.1 (round_fix (L := L) h) q hq hs
    · rw [if_neg hr] at h
      refine closedM_iff.2 fun q hq hs => ?_
      rcases List.mem_cons.1 hq with rfl | hq
      · exact absurd hs hr
      · exact closedM_iff.1 (round_fix (L := L) h) q hq hs
theorem round_lt {L : Rs} {n f : Nat} (h : Ok L n) (hf : f < 2 ^ n) : roundM L f < 2 ^ n := lt_of_sub (round_le (closed_full h) (sub_full hf)) (by have := Nat.two_pow_pos n; omega)
end Go.V.R6
