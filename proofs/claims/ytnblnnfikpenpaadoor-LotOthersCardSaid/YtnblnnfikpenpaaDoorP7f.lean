/-
  Chapter 07 in plain words: sets as numbers, and as lists; the order of lists. Conditions: none.
  Chapter 07 in plain words: as many lots as possible without a common load. Conditions: none.
  Chapter 07 in plain words: the table of the most lots; the order of sets by their bits. Conditions: none.
-/
import Derived.Test.YtnblnnfikpenpaaDoorP7c
set_option linter.unusedVariables false
set_option linter.unusedSimpArgs false
set_option linter.deprecated false
namespace R7

/-! ### the order of lists -/
def lexB : List Nat → List Nat → Bool
  | [], [] => false
  | [], _ :: _ => true
  | _ :: _, [] => false
  | x :: l, y :: l' => decide (x < y) || (x == y && lexB l l')
theorem lexB_irrefl : ∀ l : List Nat, lexB l l = false
  | [] => rfl
  | x :: l => by simp [lexB, lexB_irrefl l]
theorem lexB_asymm : ∀ {l l' : List Nat}, lexB l l' = true → lexB l' l = false
  | [], _ :: _, _ => rfl
  | x :: l, y :: l', h => by
    simp only [lexB, Bool.or_eq_true, decide_eq_true_eq, Bool.and_eq_true, beq_iff_eq, Bool.or_eq_false_iff, decide_eq_false_iff_not, Bool.and_eq_false_imp] at *
    rcases h with h | ⟨rfl, h⟩
    · exact ⟨by omega, fun e => by omega⟩
    · exact ⟨by omega, fun _ => lexB_asymm h⟩
theorem lexB_trans : ∀ {a b c : List Nat}, lexB a b = true → lexB b c = true → lexB a c = true
  | [], _ :: _, [], _, h => by simp [lexB] at h
  | [], _, _ :: _, _, _ => rfl
  | _ :: _, _ :: _, [], _, h => by simp [lexB] at h
  | x :: a, y :: b, z :: c, h1, h2 => by
    simp only [lexB, Bool.or_eq_true, decide_eq_true_eq, Bool.and_eq_true, beq_iff_eq] at *
    rcases h1 with h1 | ⟨rfl, h1⟩
    · rcases h2 with h2 | ⟨rfl, h2⟩
      · exact .inl (by omega)
      · exact .inl h1
    · rcases h2 with h2 | ⟨rfl, h2⟩
      · exact .inl h2
      · exact .inr ⟨rfl, lexB_trans h1 h2⟩
theorem lexB_total : ∀ {l l' : List Nat}, l ≠ l' → lexB l l' = true ∨ lexB l' l = true
  | [], [], h => absurd rfl h
  | [], _ :: _, _ => .inl rfl
  | _ :: _, [], _ => .inr rfl
  | x :: l, y :: l', h => by
    simp only [lexB, Bool.or_eq_true, decide_eq_true_eq, Bool.and_eq_true, beq_iff_eq]
    rcases Nat.lt_trichotomy x y with h1 | rfl | h1
    · exact .inl (.inl h1)
    · rcases lexB_total (l := l) (l' := l') (fun e => h (by rw [e])) with h2 | h2
      · exact .inl (.inr ⟨rfl, h2⟩)
      · exact .inr (.inr ⟨rfl, h2⟩)
    · exact .inr (.inl h1)
/-- lists in ascending order, each once -/
def Asc (w : List (List Nat)) : Prop := w.Pairwise fun a b => lexB a b = true
theorem asc_unique : ∀ {a b : List (List Nat)}, Asc a → Asc b → (∀ x, x ∈ a ↔ x ∈ b) → a = b
  | [], [], _, _, _ => rfl
  | [], y :: b, _, _, h => absurd ((h y).2 (by simp)) (by simp)
  | x :: a, [], _, _, h => absurd ((h x).1 (by simp)) (by simp)
  | x :: a, y :: b, ha, hb, h => by
    have ha' := List.pairwise_cons.1 ha
    have hb' := List.pairwise_cons.1 hb
    have e : x = y := by
      rcases List.mem_cons.1 ((h x).1 (by simp)) with e | h1
      · exact e
      · rcases List.mem_cons.1 ((h y).2 (by simp)) with e | h2
        · exact e.symm
        · have h3 := hb'.1 x h1
          have h4 := ha'.1 y h2
          rw [lexB_asymm h3] at h4; cases h4
    subst e
    congr 1
    refine asc_unique ha'.2 hb'.2 fun z => ?_
    have hx1 : x ∉ a := fun hm => by have := ha'.1 x hm; rw [lexB_irrefl] at this; cases this
    have hx2 : x ∉ b := fun hm => by have := hb'.1 x hm; rw [lexB_irrefl] at this; cases this
    have hz := h z
    simp only [List.mem_cons] at hz
    constructor
    · intro hm
      rcases hz.1 (.inr hm) with e | h1
      · exact absurd (e ▸ hm) hx1
      · exact h1
    · intro hm
      rcases hz.2 (.inr hm) with e | h1
      · exact absurd (e ▸ hm) hx2
      · exact h1
theorem asc_filter {w : List (List Nat)} (h : Asc w) (p : List Nat → Bool) : Asc (w.filter p) := h.filter p
theorem combs_asc : ∀ (d a k : Nat), Asc (combs d a k)
  | d, a, 0 => by rw [combs_zero]; exact List.pairwise_singleton _ _
  | 0, a, k + 1 => List.Pairwise.nil
  | d + 1, a, k + 1 => by
    simp only [combs]
    refine List.pairwise_append.2 ⟨?_, combs_asc d (a + 1) (k + 1), ?_⟩
    · refine List.pairwise_map.2 ((combs_asc d (a + 1) k).imp fun h => ?_)
      simp [lexB, h]
    · intro x hx y hy
      obtain ⟨t, _, rfl⟩ := List.mem_map.1 hx
      obtain ⟨h1, _, h3⟩ := (mem_combs _ _ _ _).1 hy
      cases y with
      | nil => cases h1
      | cons z y => have := h3 z (by simp); simp [lexB]; omega
theorem whole_asc (n : Nat) (L : List Int) (k : Nat) : Asc (whole n L k) := asc_filter (combs_asc _ _ _) _

/-! ### sets as numbers -/
/-- the things of a set, in ascending order -/
def ones (m : Nat) : List Nat := (List.range 12).filter fun i => m.testBit i
theorem mem_ones {m i : Nat} : i ∈ ones m ↔ i < 12 ∧ m.testBit i = true := by simp [ones]
theorem ones_asc (m : Nat) : (ones m).Pairwise (· < ·) := List.Pairwise.filter _ List.pairwise_lt_range
theorem testBit_big {m i : Nat} (hm : m < 4096) (hi : 12 ≤ i) : m.testBit i = false :=
  Nat.testBit_lt_two_pow (Nat.lt_of_lt_of_le hm (Nat.pow_le_pow_right (n := 2) (by decide) hi))
theorem ones_inj {a b : Nat} (ha : a < 4096) (hb : b < 4096) (h : ones a = ones b) : a = b := by
  apply Nat.eq_of_testBit_eq
  intro i
  by_cases hi : i < 12
  · have : i ∈ ones a ↔ i ∈ ones b := by rw [h]
    rw [mem_ones, mem_ones] at this
    rw [Bool.eq_iff_iff]
    exact ⟨fun h1 => (this.1 ⟨hi, h1⟩).2, fun h1 => (this.2 ⟨hi, h1⟩).2⟩
  · rw [testBit_big ha (by omega), testBit_big hb (by omega)]
def maskOf (l : List Nat) : Nat := l.foldr (fun i m => 2 ^ i ||| m) 0
theorem maskOf_bit (l : List Nat) (i : Nat) : (maskOf l).testBit i = true ↔ i ∈ l := by
  induction l with
  | nil => simp [maskOf]
  | cons x l ih =>
    have e : maskOf (x :: l) = 2 ^ x ||| maskOf l := rfl
    rw [e, Nat.testBit_or, Bool.or_eq_true, ih, Nat.testBit_two_pow, List.mem_cons, decide_eq_true_eq, eq_comm (a := x)]
theorem maskOf_lt {l : List Nat} {d : Nat} (h : ∀ x ∈ l, x < d) : maskOf l < 2 ^ d := by
  apply Nat.lt_pow_two_of_testBit
  intro i hi
  cases hb : (maskOf l).testBit i with
  | false => rfl
  | true => have := h i ((maskOf_bit l i).1 hb); omega
theorem asc_ext : ∀ {a b : List Nat}, a.Pairwise (· < ·) → b.Pairwise (· < ·) → (∀ x, x ∈ a ↔ x ∈ b) → a = b
  | [], [], _, _, _ => rfl
  | [], y :: b, _, _, h => absurd ((h y).2 (by simp)) (by simp)
  | x :: a, [], _, _, h => absurd ((h x).1 (by simp)) (by simp)
  | x :: a, y :: b, ha, hb, h => by
    have ha' := List.pairwise_cons.1 ha
    have hb' := List.pairwise_cons.1 hb
    have e : x = y := by
      rcases List.mem_cons.1 ((h x).1 (by simp)) with e | h1
      · exact e
      · rcases List.mem_cons.1 ((h y).2 (by simp)) with e | h2
        · exact e.symm
        · have h3 := hb'.1 x h1
          have h4 := ha'.1 y h2
          omega
    subst e
    congr 1
    refine asc_ext ha'.2 hb'.2 fun z => ?_
    have hz := h z
    simp only [List.mem_cons] at hz
    constructor
    · intro hm
      rcases hz.1 (.inr hm) with e | h1
      · have := ha'.1 z hm; omega
      · exact h1
    · intro hm
      rcases hz.2 (.inr hm) with e | h1
      · have := hb'.1 z hm; omega
      · exact h1
theorem ones_maskOf {l : List Nat} (h : l.Pairwise (· < ·)) (h12 : ∀ x ∈ l, x < 12) : ones (maskOf l) = l :=
  asc_ext (ones_asc _) h fun x => by
    rw [mem_ones, maskOf_bit]
    exact ⟨fun h => h.2, fun hx => ⟨h12 x hx, hx⟩⟩
theorem ones_lt {m d : Nat} (hm : m < 2 ^ d) : ∀ x ∈ ones m, x < d := fun x hx => by
  have h2 := (mem_ones.1 hx).2
  rcases Nat.lt_or_ge x d with h | h
  · exact h
  · rw [Nat.testBit_lt_two_pow (Nat.lt_of_lt_of_le hm (Nat.pow_le_pow_right (n := 2) (by decide) h))] at h2; cases h2
theorem maskOf_ones {m : Nat} (hm : m < 4096) : maskOf (ones m) = m :=
  ones_inj (maskOf_lt (d := 12) fun x hx => (mem_ones.1 hx).1) hm (ones_maskOf (ones_asc m) fun x hx => (mem_ones.1 hx).1)
/-- sets and lists of places -/
theorem mem_combs_ones {d k m : Nat} (hd : d ≤ 12) (hm : m < 2 ^ d) : ones m ∈ combs d 0 k ↔ (ones m).length = k := by
  rw [mem_combs]
  exact ⟨fun h => h.1, fun h => ⟨h, ones_asc m, fun x hx => by have := ones_lt hm x hx; omega⟩⟩
theorem combs_mask {d k : Nat} (hd : d ≤ 12) {l : List Nat} (h : l ∈ combs d 0 k) : ∃ m, m < 2 ^ d ∧ ones m = l := by
  obtain ⟨_, h2, h3⟩ := (mem_combs _ _ _ _).1 h
  exact ⟨maskOf l, maskOf_lt fun x hx => by have := h3 x hx; omega, ones_maskOf h2 fun x hx => by have := h3 x hx; omega⟩

/-! ### what a set leaves -/
def leftU (n : Nat) (L : List Int) (m : Nat) : Int := wt L (ones m) % n
def sets (n : Nat) (L : List Int) (k : Nat) : List Nat := (List.range (2 ^ L.length)).filter fun m => leftU n L m == 0 && (ones m).length == k
/-- the order of sets -/
def before (a b : Nat) : Bool := lexB (ones a) (ones b)
/-- sets in ascending order are the lists of the answer -/
theorem whole_sets {n : Nat} {L : List Int} {k : Nat} (hL : L.length ≤ 12) {w : List Nat} (hp : w.Perm (sets n L k)) (hs : w.Pairwise fun a b => before a b = true) : w.map ones = whole n L k := by
  refine asc_unique (List.pairwise_map.2 hs) (whole_asc n L k) fun x => ?_
  unfold whole
  rw [List.mem_map, List.mem_filter]
  constructor
  · rintro ⟨m, hm, rfl⟩
    have := List.mem_filter.1 (hp.mem_iff.1 hm)
    obtain ⟨h1, h2⟩ := this
    rw [List.mem_range] at h1
    simp only [Bool.and_eq_true, beq_iff_eq] at h2
    exact ⟨(mem_combs_ones hL h1).2 h2.2, by simpa [leftU] using h2.1⟩
  · rintro ⟨h1, h2⟩
    obtain ⟨m, hm, rfl⟩ := combs_mask hL h1
    refine ⟨m, hp.mem_iff.2 (List.mem_filter.2 ⟨List.mem_range.2 hm, ?_⟩), rfl⟩
    simp only [Bool.and_eq_true, beq_iff_eq]
    exact ⟨by simpa [leftU] using h2, (mem_combs_ones hL hm).1 h1⟩
end R7

namespace R7

/-- no load in common -/
def disj (a b : Nat) : Bool := a &&& b == 0
/-- a is part of b -/
def sub (a b : Nat) : Bool := a &&& b == a
/-- b without a -/
def dif (b a : Nat) : Nat := b ^^^ (b &&& a)
theorem disj_iff {a b : Nat} : disj a b = true ↔ ∀ i, a.testBit i = true → b.testBit i = true → False := by
  unfold disj
  rw [beq_iff_eq]
  constructor
  · intro h i h1 h2
    have := congrArg (fun m => Nat.testBit m i) h
    simp only [Nat.testBit_and, h1, h2, Nat.zero_testBit] at this
    cases this
  · intro h
    apply Nat.eq_of_testBit_eq
    intro i
    rw [Nat.testBit_and, Nat.zero_testBit]
    cases h1 : a.testBit i with
    | false => rfl
    | true => cases h2 : b.testBit i with
      | false => rfl
      | true => exact (h i h1 h2).elim
theorem sub_iff {a b : Nat} : sub a b = true ↔ ∀ i, a.testBit i = true → b.testBit i = true := by
  unfold sub
  rw [beq_iff_eq]
  constructor
  · intro h i h1
    rw [← h, Nat.testBit_and, Bool.and_eq_true] at h1
    exact h1.2
  · intro h
    apply Nat.eq_of_testBit_eq
    intro i
    rw [Nat.testBit_and]
    cases h1 : a.testBit i with
    | false => rfl
    | true => rw [h i h1]; rfl
theorem dif_bit (b a i : Nat) : (dif b a).testBit i = (b.testBit i && !a.testBit i) := by
  unfold dif
  rw [Nat.testBit_xor, Nat.testBit_and]
  cases b.testBit i <;> cases a.testBit i <;> rfl
theorem dif_le (b a : Nat) : dif b a ≤ b := Nat.le_of_testBit fun i h => by rw [dif_bit, Bool.and_eq_true] at h; exact h.1
theorem exists_bit {a : Nat} (h : a ≠ 0) : ∃ i, a.testBit i = true := by
  refine Classical.byContradiction fun hn => h ?_
  apply Nat.eq_of_testBit_eq
  intro i
  rw [Nat.zero_testBit]
  cases hb : a.testBit i with
  | false => rfl
  | true => exact (hn ⟨i, hb⟩).elim
theorem dif_lt {b a : Nat} (h : sub a b = true) (ha : a ≠ 0) : dif b a < b := by
  refine Nat.lt_of_le_of_ne (dif_le b a) fun e => ?_
  obtain ⟨i, hi⟩ := exists_bit ha
  have h1 := sub_iff.1 h i hi
  have h2 := congrArg (fun m => Nat.testBit m i) e
  simp only [dif_bit, h1, hi, Bool.not_true, Bool.and_false] at h2
  cases h2
theorem sub_dif {l s t : Nat} : sub l (dif s t) = true ↔ sub l s = true ∧ disj t l = true := by
  rw [sub_iff, sub_iff, disj_iff]
  constructor
  · intro h
    refine ⟨fun i hi => ?_, fun i h1 h2 => ?_⟩
    · have := h i hi; rw [dif_bit, Bool.and_eq_true] at this; exact this.1
    · have := h i h2; rw [dif_bit, h1, Bool.not_true, Bool.and_false] at this; cases this
  · rintro ⟨h1, h2⟩ i hi
    rw [dif_bit, h1 i hi]
    cases ht : t.testBit i with
    | false => rfl
    | true => exact (h2 i ht hi).elim

/-! ### families -/
/-- sets of w, within s, no two of which have a thing in common -/
structure Fam (w : List Nat) (s : Nat) (F : List Nat) : Prop where
  mem : ∀ x ∈ F, x ∈ w ∧ sub x s = true
  dis : F.Pairwise fun a b => disj a b = true
theorem disj_comm {a b : Nat} : disj a b = disj b a := by unfold disj; rw [Nat.and_comm]
/-- the most sets: what all ways to find them give -/
structure IsMost (w : List Nat) (mx : Nat → Nat) : Prop where
  att : ∀ s, ∃ F, Fam w s F ∧ F.length = mx s
  le : ∀ s F, Fam w s F → F.length ≤ mx s
/-- the first list of so many sets, one after the other -/
def first : List Nat → Nat → Option (List Nat)
  | _, 0 => some []
  | [], _ + 1 => none
  | l :: w, k + 1 => match first (w.filter (disj l)) k with
    | some r => some (l :: r)
    | none => first w (k + 1)
termination_by w k => (w.length, k)
decreasing_by
  all_goals simp_wf
  · have := List.length_filter_le (disj l) w
    exact Prod.Lex.left _ _ (by omega)
  · exact Prod.Lex.left _ _ (by omega)
theorem first_zero (w : List Nat) : first w 0 = some [] := by cases w <;> rw [first]
theorem first_nil (k : Nat) : first [] (k + 1) = none := by rw [first]
theorem first_cons (l : Nat) (w : List Nat) (k : Nat) : first (l :: w) (k + 1) = match first (w.filter (disj l)) k with
    | some r => some (l :: r)
    | none => first w (k + 1) := by rw [first]
theorem first_fam : ∀ (n : Nat) (w : List Nat) (k : Nat) (r : List Nat), w.length ≤ n → first w k = some r → r.length = k ∧ (∀ x ∈ r, x ∈ w) ∧ r.Pairwise fun a b => disj a b = true
  | n, w, 0, r, _, h => by rw [first_zero] at h; cases h; simp
  | _, [], k + 1, r, _, h => by rw [first_nil] at h; cases h
  | n + 1, l :: w, k + 1, r, hn, h => by
    rw [first_cons] at h
    simp only [List.length_cons] at hn
    cases hf : first (w.filter (disj l)) k with
    | some r' =>
      rw [hf] at h; cases h
      obtain ⟨h1, h2, h3⟩ := first_fam n _ k r' (by have := List.length_filter_le (disj l) w; omega) hf
      refine ⟨by simp [h1], fun x hx => ?_, List.pairwise_cons.2 ⟨fun x hx => (List.mem_filter.1 (h2 x hx)).2, h3⟩⟩
      rcases List.mem_cons.1 hx with rfl | hx
      · simp
      · exact List.mem_cons_of_mem _ (List.mem_filter.1 (h2 x hx)).1
    | none =>
      rw [hf] at h
      obtain ⟨h1, h2, h3⟩ := first_fam n w (k + 1) r (by omega) h
      exact ⟨h1, fun x hx => List.mem_cons_of_mem _ (h2 x hx), h3⟩
/-- the program's way: a set is taken if with it there are still as many -/
def greedy (mx : Nat → Nat) : List Nat → Nat → List Nat
  | [], _ => []
  | l :: w, s => if sub l s = true ∧ 1 + mx (dif s l) = mx s then l :: greedy mx w (dif s l) else greedy mx w s
theorem Fam.cons {w F : List Nat} {s l : Nat} (hF : Fam w (dif s l) F) (hl : l ∈ w) (hs : sub l s = true) : Fam w s (l :: F) where
  mem := fun x hx => by
    rcases List.mem_cons.1 hx with rfl | hx
    · exact ⟨hl, hs⟩
    · exact ⟨(hF.mem x hx).1, (sub_dif.1 (hF.mem x hx).2).1⟩
  dis := List.pairwise_cons.2 ⟨fun x hx => (sub_dif.1 (hF.mem x hx).2).2, hF.dis⟩
theorem disj_self {l : Nat} (h0 : l ≠ 0) : disj l l = false := by unfold disj; rw [Nat.and_self]; simpa using h0
/-- a set of a family, and the others -/
theorem Fam.split {w F : List Nat} {s l : Nat} (hF : Fam w s F) (hl : l ∈ F) : ∃ G, Fam w (dif s l) G ∧ F.length = G.length + 1 ∧ (∀ x ∈ F, x = l ∨ x ∈ G) := by
  obtain ⟨A, B, rfl⟩ := List.append_of_mem hl
  have hd := hF.dis
  rw [List.pairwise_append] at hd
  obtain ⟨d1, d2, d3⟩ := hd
  rw [List.pairwise_cons] at d2
  refine ⟨A ++ B, ⟨fun x hx => ?_, List.pairwise_append.2 ⟨d1, d2.2, fun a ha b hb => d3 a ha b (List.mem_cons_of_mem _ hb)⟩⟩, by simp; omega, fun x hx => ?_⟩
  · rcases List.mem_append.1 hx with hx | hx
    · have := hF.mem x (by simp [hx])
      exact ⟨this.1, sub_dif.2 ⟨this.2, by rw [disj_comm]; exact d3 x hx l (by simp)⟩⟩
    · have := hF.mem x (by simp [hx])
      exact ⟨this.1, sub_dif.2 ⟨this.2, d2.1 x hx⟩⟩
  · rcases List.mem_append.1 hx with hx | hx
    · exact .inr (by simp [hx])
    · rcases List.mem_cons.1 hx with rfl | hx
      · exact .inl rfl
      · exact .inr (by simp [hx])
theorem filter_sub_dif (w : List Nat) (s l : Nat) : (w.filter fun x => sub x s).filter (disj l) = w.filter fun x => sub x (dif s l) := by
  rw [List.filter_filter]
  apply List.filter_congr
  intro x _
  rw [Bool.eq_iff_iff, Bool.and_eq_true, sub_dif]
  exact and_comm
/-- the program's way finds the first list -/
theorem greedy_first {w : List Nat} {mx : Nat → Nat} (hm : IsMost w mx) (h0 : ∀ x ∈ w, x ≠ 0) : ∀ (v : List Nat) (s : Nat), (∀ x ∈ v, x ∈ w) → (∀ F, Fam w s F → F.length = mx s → ∀ x ∈ F, x ∈ v) → first (v.filter fun x => sub x s) (mx s) = some (greedy mx v s)
  | [], s, _, hi => by
    obtain ⟨F, hF, hl⟩ := hm.att s
    have : F = [] := by
      cases F with
      | nil => rfl
      | cons x F => have := hi _ hF hl x (by simp); cases this
    subst this
    simp only [List.length_nil] at hl
    rw [← hl, first_zero]; rfl
  | l :: v, s, hv, hi => by
    have hlw := hv l (by simp)
    by_cases hs : sub l s = true
    · rw [show (l :: v).filter (fun x => sub x s) = l :: v.filter (fun x => sub x s) from List.filter_cons_of_pos (by simpa using hs)]
      have h1 : 1 + mx (dif s l) ≤ mx s := by
        obtain ⟨G, hG, hgl⟩ := hm.att (dif s l)
        have := hm.le s _ (hG.cons hlw hs)
        simp only [List.length_cons] at this; omega
      obtain ⟨k, hk⟩ : ∃ k, mx s = k + 1 := ⟨mx s - 1, by omega⟩
      by_cases he : 1 + mx (dif s l) = mx s
      · have hk' : k = mx (dif s l) := by omega
        have ih := greedy_first hm h0 v (dif s l) (fun x hx => hv x (List.mem_cons_of_mem _ hx)) fun F hF hl' x hx => by
          have hc := hi _ (hF.cons hlw hs) (by simp only [List.length_cons]; omega) x (List.mem_cons_of_mem _ hx)
          rcases List.mem_cons.1 hc with rfl | hc
          · have := (sub_dif.1 (hF.mem x hx).2).2
            rw [disj_self (h0 x hlw)] at this; cases this
          · exact hc
        rw [hk, first_cons, filter_sub_dif, hk', ih]
        simp only [greedy]
        rw [if_pos ⟨hs, he⟩]
      · have ih := greedy_first hm h0 v s (fun x hx => hv x (List.mem_cons_of_mem _ hx)) fun F hF hl' x hx => by
          rcases List.mem_cons.1 (hi F hF hl' x hx) with rfl | hc
          · obtain ⟨G, hG, hgl, _⟩ := hF.split hx
            have := hm.le _ _ hG
            omega
          · exact hc
        rw [hk] at ih ⊢
        rw [first_cons, filter_sub_dif]
        have hn : first (v.filter fun x => sub x (dif s l)) k = none := by
          cases hf : first (v.filter fun x => sub x (dif s l)) k with
          | none => rfl
          | some r =>
            obtain ⟨g1, g2, g3⟩ := first_fam _ _ k r (Nat.le_refl _) hf
            have := hm.le (dif s l) r ⟨fun x hx => by
              have := List.mem_filter.1 (g2 x hx)
              exact ⟨hv x (List.mem_cons_of_mem _ this.1), this.2⟩, g3⟩
            omega
        rw [hn]
        simp only [greedy]
        rw [if_neg (fun h => he h.2)]
        exact ih
    · rw [show (l :: v).filter (fun x => sub x s) = v.filter (fun x => sub x s) from List.filter_cons_of_neg (by simpa using hs)]
      have ih := greedy_first hm h0 v s (fun x hx => hv x (List.mem_cons_of_mem _ hx)) fun F hF hl' x hx => by
        rcases List.mem_cons.1 (hi F hF hl' x hx) with rfl | hc
        · exact absurd (hF.mem x hx).2 hs
        · exact hc
      simp only [greedy]
      rw [if_neg (fun h => hs h.1)]
      exact ih
/-- no more can be found -/
theorem first_none {w : List Nat} {mx : Nat → Nat} (hm : IsMost w mx) {s k : Nat} (hs : ∀ x ∈ w, sub x s = true) (hk : mx s < k) : first w k = none := by
  cases hf : first w k with
  | none => rfl
  | some r =>
    obtain ⟨g1, g2, g3⟩ := first_fam _ _ k r (Nat.le_refl _) hf
    have := hm.le s r ⟨fun x hx => ⟨g2 x hx, hs x (g2 x hx)⟩, g3⟩
    omega
end R7

namespace R7

theorem fam_le {w : List Nat} (h0 : ∀ x ∈ w, x ≠ 0) : ∀ (n s : Nat) (F : List Nat), s ≤ n → Fam w s F → F.length ≤ s
  | _, s, [], _, _ => by simp
  | n, s, l :: F, hn, hF => by
    obtain ⟨G, hG, hl, _⟩ := hF.split (l := l) (by simp)
    have h1 := hF.mem l (by simp)
    have h2 := dif_lt h1.2 (h0 l h1.1)
    cases n with
    | zero => omega
    | succ n => have := fam_le h0 n (dif s l) G (by omega) hG; omega
theorem exists_most {w : List Nat} (h0 : ∀ x ∈ w, x ≠ 0) (s : Nat) : ∃ k, (∃ F, Fam w s F ∧ F.length = k) ∧ ∀ F, Fam w s F → F.length ≤ k := by
  have main : ∀ d, d ≤ s → (∀ F, Fam w s F → F.length ≤ s - d) → ∃ k, (∃ F, Fam w s F ∧ F.length = k) ∧ ∀ F, Fam w s F → F.length ≤ k := by
    intro d hd
    induction hk : s - d generalizing d with
    | zero =>
      intro h
      exact ⟨0, ⟨[], ⟨by simp, List.Pairwise.nil⟩, rfl⟩, h⟩
    | succ k ih =>
      intro h
      by_cases he : ∃ F, Fam w s F ∧ F.length = k + 1
      · exact ⟨k + 1, he, h⟩
      · refine ih (d + 1) (by omega) (by omega) fun F hF => ?_
        have := h F hF
        rcases Nat.lt_or_ge k F.length with h1 | h1
        · exact absurd ⟨F, hF, by omega⟩ he
        · omega
  exact main 0 (by omega) fun F hF => by have := fam_le h0 s s F (Nat.le_refl _) hF; omega
/-- the most sets of w within s -/
noncomputable def mx (w : List Nat) (s : Nat) : Nat := open Classical in if h : ∃ k, (∃ F, Fam w s F ∧ F.length = k) ∧ ∀ F, Fam w s F → F.length ≤ k then h.choose else 0
theorem mx_most {w : List Nat} (h0 : ∀ x ∈ w, x ≠ 0) : IsMost w (mx w) where
  att s := by
    have h := exists_most h0 s
    unfold mx
    rw [dif_pos h]
    exact h.choose_spec.1
  le s := by
    have h := exists_most h0 s
    unfold mx
    rw [dif_pos h]
    exact h.choose_spec.2
theorem le_foldl {α : Type} (p : α → Bool) (f : α → Nat) : ∀ (w : List α) (b : Nat), b ≤ w.foldl (fun b l => if p l = true then max b (f l) else b) b ∧ ∀ l ∈ w, p l = true → f l ≤ w.foldl (fun b l => if p l = true then max b (f l) else b) b
  | [], b => ⟨Nat.le_refl _, by simp⟩
  | x :: w, b => by
    obtain ⟨h1, h2⟩ := le_foldl p f w (if p x = true then max b (f x) else b)
    simp only [List.foldl_cons]
    refine ⟨Nat.le_trans ?_ h1, fun l hl hp => ?_⟩
    · split <;> omega
    · rcases List.mem_cons.1 hl with rfl | hl
      · rw [if_pos hp] at h1 ⊢
        omega
      · exact h2 l hl hp
theorem foldl_le {α : Type} (p : α → Bool) (f : α → Nat) (m : Nat) : ∀ (w : List α) (b : Nat), b ≤ m → (∀ l ∈ w, p l = true → f l ≤ m) → w.foldl (fun b l => if p l = true then max b (f l) else b) b ≤ m
  | [], b, h, _ => h
  | x :: w, b, h, h' => by
    simp only [List.foldl_cons]
    refine foldl_le p f m w _ ?_ fun l hl => h' l (List.mem_cons_of_mem _ hl)
    split
    · rename_i hp; have := h' x (by simp) hp; omega
    · exact h
theorem mx_cons {w : List Nat} (h0 : ∀ x ∈ w, x ≠ 0) {s l : Nat} (hl : l ∈ w) (hs : sub l s = true) : 1 + mx w (dif s l) ≤ mx w s := by
  obtain ⟨G, hG, hgl⟩ := (mx_most h0).att (dif s l)
  have := (mx_most h0).le s _ (hG.cons hl hs)
  simp only [List.length_cons] at this; omega
theorem mx_mono {w : List Nat} (h0 : ∀ x ∈ w, x ≠ 0) {s t : Nat} (h : sub s t = true) : mx w s ≤ mx w t := by
  obtain ⟨G, hG, hgl⟩ := (mx_most h0).att s
  have := (mx_most h0).le t G ⟨fun x hx => ⟨(hG.mem x hx).1, sub_iff.2 fun i hi => sub_iff.1 h i (sub_iff.1 (hG.mem x hx).2 i hi)⟩, hG.dis⟩
  omega
/-- the table's step: without the greatest thing, or with a set that has it -/
theorem mx_step {w : List Nat} (h0 : ∀ x ∈ w, x ≠ 0) {s t : Nat} : mx w s = w.foldl (fun b l => if (l.testBit t && sub l s) = true then max b (1 + mx w (dif s l)) else b) (mx w (dif s (2 ^ t))) := by
  apply Nat.le_antisymm
  · obtain ⟨F, hF, hl⟩ := (mx_most h0).att s
    obtain ⟨h1, h2⟩ := le_foldl (fun l => l.testBit t && sub l s) (fun l => 1 + mx w (dif s l)) w (mx w (dif s (2 ^ t)))
    by_cases he : ∃ l ∈ F, l.testBit t = true
    · obtain ⟨l, hlF, hlt⟩ := he
      obtain ⟨G, hG, hgl, _⟩ := hF.split hlF
      have := (mx_most h0).le _ _ hG
      have h3 := h2 l (hF.mem l hlF).1 (by simp [hlt, (hF.mem l hlF).2])
      omega
    · have hG : Fam w (dif s (2 ^ t)) F := ⟨fun x hx => ⟨(hF.mem x hx).1, sub_iff.2 fun i hi => by
        rw [dif_bit, sub_iff.1 (hF.mem x hx).2 i hi, Nat.testBit_two_pow]
        have : ¬ t = i := fun e => he ⟨x, hx, e ▸ hi⟩
        simp [this]⟩, hF.dis⟩
      have := (mx_most h0).le _ _ hG
      omega
  · refine foldl_le _ _ _ _ _ (mx_mono h0 (sub_iff.2 fun i hi => by rw [dif_bit, Bool.and_eq_true] at hi; exact hi.1)) fun l hl hp => ?_
    rw [Bool.and_eq_true] at hp
    exact mx_cons h0 hl hp.2
/-- the law's step: with any set -/
theorem mx_step' {w : List Nat} (h0 : ∀ x ∈ w, x ≠ 0) {s : Nat} : mx w s = w.foldl (fun b l => if sub l s = true then max b (1 + mx w (dif s l)) else b) 0 := by
  apply Nat.le_antisymm
  · obtain ⟨F, hF, hl⟩ := (mx_most h0).att s
    obtain ⟨h1, h2⟩ := le_foldl (fun l => sub l s) (fun l => 1 + mx w (dif s l)) w 0
    cases F with
    | nil => simp at hl; omega
    | cons l F =>
      obtain ⟨G, hG, hgl, _⟩ := hF.split (l := l) (by simp)
      have := (mx_most h0).le _ _ hG
      have h3 := h2 l (hF.mem l (by simp)).1 (hF.mem l (by simp)).2
      omega
  · exact foldl_le _ _ _ _ _ (Nat.zero_le _) fun l hl hp => mx_cons h0 hl hp
theorem mx_zero {w : List Nat} (h0 : ∀ x ∈ w, x ≠ 0) : mx w 0 = 0 := by
  obtain ⟨F, hF, hl⟩ := (mx_most h0).att 0
  have := fam_le h0 0 0 F (Nat.le_refl _) hF
  omega

/-! ### bits -/
def tz (m : Nat) : Nat := (ones m).headD 0
theorem ones_zero : ones 0 = [] := by decide
set_option maxRecDepth 100000 in
theorem ones_step : ∀ m < 4096, m ≠ 0 → ones m = tz m :: ones (m &&& (m - 1)) := by decide +kernel
set_option maxRecDepth 100000 in
theorem ones_top : ∀ m < 4096, m ≠ 0 → ones m = ones (m - 2 ^ Nat.log2 m) ++ [Nat.log2 m] := by decide +kernel
set_option maxRecDepth 100000 in
theorem top_dif : ∀ m < 4096, m ≠ 0 → dif m (2 ^ Nat.log2 m) = m - 2 ^ Nat.log2 m := by decide +kernel
theorem lexB_append (p x y : List Nat) : lexB (p ++ x) (p ++ y) = lexB x y := by
  induction p with
  | nil => rfl
  | cons a p ih => simp [lexB, ih]
theorem range_split {i : Nat} (hi : i < 12) : List.range 12 = List.range i ++ i :: (List.range' (i + 1) (11 - i)) := by
  have e : (12 : Nat) = i + (1 + (11 - i)) := by omega
  rw [e, List.range_add, ← List.range'_eq_map_range]
  congr 1
  rw [Nat.add_comm 1, List.range'_succ]
/-- the first place where two sets differ tells which one comes first, if both have as many things -/
theorem before_bit {a b i : Nat} (hi : i < 12) (hlow : ∀ j, j < i → a.testBit j = b.testBit j) (ha : a.testBit i = true) (hb : b.testBit i = false) (hlen : (ones a).length = (ones b).length) : before a b = true := by
  unfold before
  have e : ∀ m, ones m = (List.range i).filter (fun j => m.testBit j) ++ ((i :: List.range' (i + 1) (11 - i)).filter fun j => m.testBit j) := fun m => by
    unfold ones; rw [range_split hi, List.filter_append]
  have hp : (List.range i).filter (fun j => a.testBit j) = (List.range i).filter (fun j => b.testBit j) := List.filter_congr fun j hj => hlow j (List.mem_range.1 hj)
  rw [e a, e b, hp, List.filter_cons_of_pos ha, List.filter_cons_of_neg (by simp [hb])] at hlen ⊢
  rw [lexB_append]
  simp only [List.length_append, List.length_cons] at hlen
  cases hr : (List.range' (i + 1) (11 - i)).filter (fun j => b.testBit j) with
  | nil => rw [hr] at hlen; simp at hlen <;> omega
  | cons y r =>
    have hy : y ∈ (List.range' (i + 1) (11 - i)).filter (fun j => b.testBit j) := by rw [hr]; simp
    have := (List.mem_filter.1 hy).1
    rw [List.mem_range'_1] at this
    simp only [lexB, Bool.or_eq_true, decide_eq_true_eq]
    exact .inl (by omega)
theorem xor_zero {a b : Nat} (h : a ^^^ b = 0) : a = b := by
  apply Nat.eq_of_testBit_eq
  intro i
  have := congrArg (fun m => Nat.testBit m i) h
  simp only [Nat.testBit_xor, Nat.zero_testBit] at this
  cases ha : a.testBit i <;> cases hb : b.testBit i <;> simp_all
/-- what the program asks -/
def bitB (a b : Nat) : Bool := (a ^^^ b != 0) && a.testBit (tz (a ^^^ b))
theorem tz_spec {m : Nat} (hm : m < 4096) (h0 : m ≠ 0) : tz m < 12 ∧ m.testBit (tz m) = true ∧ ∀ j, j < tz m → m.testBit j = false := by
  have hs := ones_step m hm h0
  have h1 : tz m ∈ ones m := by rw [hs]; simp
  obtain ⟨h2, h3⟩ := mem_ones.1 h1
  refine ⟨h2, h3, fun j hj => ?_⟩
  cases hb : m.testBit j with
  | false => rfl
  | true =>
    have hjm : j ∈ ones m := mem_ones.2 ⟨by omega, hb⟩
    have hasc := ones_asc m
    rw [hs] at hjm hasc
    rcases List.mem_cons.1 hjm with e | h
    · omega
    · have := (List.pairwise_cons.1 hasc).1 j h; omega
theorem bitB_eq {a b : Nat} (ha : a < 4096) (hb : b < 4096) (hlen : (ones a).length = (ones b).length) : bitB a b = before a b := by
  unfold bitB
  by_cases he : a = b
  · subst he
    unfold before
    rw [lexB_irrefl, Nat.xor_self]; rfl
  · have hx : a ^^^ b ≠ 0 := fun h => he (xor_zero h)
    obtain ⟨h1, h2, h3⟩ := tz_spec (Nat.xor_lt_two_pow (n := 12) ha hb) hx
    generalize tz (a ^^^ b) = i at *
    have hlow : ∀ j, j < i → a.testBit j = b.testBit j := fun j hj => by
      have := h3 j hj
      rw [Nat.testBit_xor] at this
      cases h : a.testBit j <;> cases h' : b.testBit j <;> simp_all
    rw [Nat.testBit_xor] at h2
    have hx' : (a ^^^ b != 0) = true := by simpa using hx
    rw [hx', Bool.true_and]
    cases hai : a.testBit i with
    | true =>
      rw [hai] at h2
      exact (before_bit h1 hlow hai (by simpa using h2) hlen).symm
    | false =>
      rw [hai] at h2
      have := before_bit h1 (fun j hj => (hlow j hj).symm) (by simpa using h2) hai hlen.symm
      unfold before at *
      exact (lexB_asymm this).symm
end R7
