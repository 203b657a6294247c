/-
  Chapter 02 in plain words: odd corners in a side; sides that are a proof; whether a map is even. Conditions: none.
  Chapter 02 in plain words: the reference's search of all corners. Conditions: none.
  Chapter 02 in plain words: in an even map there are as many cuts of a proof as streets have to be gone twice (Seymour's theorem, by Sebo's proof). Conditions: none.
  Chapter 02, plain: a map whose first streets are a tree; how many sets are enough; the fewest streets make no ring. Conditions: none.
  Chapter 02, plain: maps that are the same but for the numbers of corners and the order of streets. Conditions: none.
-/
import Derived.Test.YtaphkenfcnocbaaGreatDoorP2f
import Derived.Test.YtaphkenfcnocbaaGreatDoorP2o
set_option linter.unusedVariables false
set_option linter.unusedSimpArgs false
set_option linter.deprecated false
namespace R2

/-! ### two sides -/
/-- one of the four steps for a street -/
def half (e : E) (j : Nat) (d : Nat × Nat) : Nat × Nat :=
  if j = 0 then (if d.1.testBit e.a then (d.1, d.2 ||| 2 ^ e.b) else d)
  else if j = 1 then (if d.1.testBit e.b then (d.1, d.2 ||| 2 ^ e.a) else d)
  else if j = 2 then (if d.2.testBit e.a then (d.1 ||| 2 ^ e.b, d.2) else d)
  else (if d.2.testBit e.b then (d.1 ||| 2 ^ e.a, d.2) else d)
def halfs (e : E) (d : Nat × Nat) : Nat → Nat × Nat
  | 0 => d
  | j + 1 => half e j (halfs e d j)
def evK (L : G) (d : Nat × Nat) : Nat → Nat × Nat
  | 0 => d
  | k + 1 => halfs (L.getD k default) (evK L d k) 4
def evR (L : G) : Nat → Nat × Nat
  | 0 => (1, 0)
  | k + 1 => evK L (evR L k) L.length
def evenB (n : Nat) (L : G) : Bool := (evR L n).1 &&& (evR L n).2 == 0
def Sub2 (d d' : Nat × Nat) : Prop := sub d.1 d'.1 = true ∧ sub d.2 d'.2 = true
theorem Sub2.refl (d : Nat × Nat) : Sub2 d d := ⟨sub_refl _, sub_refl _⟩
theorem Sub2.trans {a b c : Nat × Nat} (h : Sub2 a b) (k : Sub2 b c) : Sub2 a c := ⟨sub_trans h.1 k.1, sub_trans h.2 k.2⟩
theorem sub_or (a b : Nat) : sub a (a ||| b) = true := sub_iff.2 fun i hi => by rw [Nat.testBit_or, hi]; rfl
theorem half_sub (e : E) (j : Nat) (d : Nat × Nat) : Sub2 d (half e j d) := by
  unfold half
  repeat' split
  all_goals first | exact Sub2.refl d | exact ⟨sub_refl _, sub_or _ _⟩ | exact ⟨sub_or _ _, sub_refl _⟩
theorem halfs_sub (e : E) (d : Nat × Nat) (i : Nat) : ∀ j, Sub2 (halfs e d i) (halfs e d (i + j))
  | 0 => Sub2.refl _
  | j + 1 => (halfs_sub e d i j).trans (half_sub e (i + j) _)
theorem evK_sub (L : G) (d : Nat × Nat) (i : Nat) : ∀ j, Sub2 (evK L d i) (evK L d (i + j))
  | 0 => Sub2.refl _
  | j + 1 => by
    refine (evK_sub L d i j).trans ?_
    show Sub2 _ (halfs (L.getD (i + j) default) (evK L d (i + j)) 4)
    have := halfs_sub (L.getD (i + j) default) (evK L d (i + j)) 0 4
    exact this
theorem evR_sub (L : G) (i : Nat) : ∀ j, Sub2 (evR L i) (evR L (i + j))
  | 0 => Sub2.refl _
  | j + 1 => (evR_sub L i j).trans (by
    have := evK_sub L (evR L (i + j)) 0 L.length
    rw [Nat.zero_add] at this
    exact this)
/-- what keeps: corners are on the side of their colour -/
structure Fits (c : Nat → Bool) (d : Nat × Nat) : Prop where
  p : ∀ v, d.1.testBit v = true → c v = c 0
  q : ∀ v, d.2.testBit v = true → c v = !c 0
theorem half_fits {c : Nat → Bool} {e : E} (he : c e.a ≠ c e.b) (j : Nat) {d : Nat × Nat} (h : Fits c d) : Fits c (half e j d) := by
  have hab : c e.b = !c e.a := by revert he; cases c e.a <;> cases c e.b <;> simp
  have hba : c e.a = !c e.b := by revert he; cases c e.a <;> cases c e.b <;> simp
  unfold half
  repeat' split
  all_goals first | exact h | skip
  all_goals rename_i hb
  · exact ⟨h.p, fun v hv => by
      rw [Nat.testBit_or, Bool.or_eq_true, two_bit] at hv
      rcases hv with hv | rfl
      · exact h.q v hv
      · rw [hab, h.p _ hb]⟩
  · exact ⟨h.p, fun v hv => by
      rw [Nat.testBit_or, Bool.or_eq_true, two_bit] at hv
      rcases hv with hv | rfl
      · exact h.q v hv
      · rw [hba, h.p _ hb]⟩
  · exact ⟨fun v hv => by
      rw [Nat.testBit_or, Bool.or_eq_true, two_bit] at hv
      rcases hv with hv | rfl
      · exact h.p v hv
      · rw [hab, h.q _ hb, Bool.not_not], h.q⟩
  · exact ⟨fun v hv => by
      rw [Nat.testBit_or, Bool.or_eq_true, two_bit] at hv
      rcases hv with hv | rfl
      · exact h.p v hv
      · rw [hba, h.q _ hb, Bool.not_not], h.q⟩
where two_bit {u v : Nat} : (2 ^ u).testBit v = true ↔ v = u := by rw [Nat.testBit_two_pow, decide_eq_true_eq]; exact eq_comm
theorem evK_fits {c : Nat → Bool} {L : G} (hc : ∀ i, i < L.length → c (L.getD i default).a ≠ c (L.getD i default).b) {d : Nat × Nat} (h : Fits c d) : ∀ k, k ≤ L.length → Fits c (evK L d k)
  | 0, _ => h
  | k + 1, hk => by
    have ih := evK_fits hc h k (by omega)
    have : ∀ j, Fits c (halfs (L.getD k default) (evK L d k) j) := fun j => by
      induction j with
      | zero => exact ih
      | succ j ihj => exact half_fits (hc k (by omega)) j ihj
    exact this 4
theorem evR_fits {c : Nat → Bool} {L : G} (hc : ∀ i, i < L.length → c (L.getD i default).a ≠ c (L.getD i default).b) : ∀ k, Fits c (evR L k)
  | 0 => ⟨fun v hv => by
      have : v = 0 := by
        have h : (2 ^ 0).testBit v = true := hv
        rw [Nat.testBit_two_pow, decide_eq_true_eq] at h; exact h.symm
      rw [this], fun v hv => by
      have h : (0 : Nat).testBit v = true := hv
      rw [Nat.zero_testBit] at h; cases h⟩
  | k + 1 => evK_fits hc (evR_fits hc k) _ (Nat.le_refl _)
/-- after a street whose end is there its other end is on the other side -/
theorem halfs_end (e : E) (d : Nat × Nat) : (d.1.testBit e.a = true → (halfs e d 4).2.testBit e.b = true) ∧ (d.1.testBit e.b = true → (halfs e d 4).2.testBit e.a = true) ∧ (d.2.testBit e.a = true → (halfs e d 4).1.testBit e.b = true) ∧ (d.2.testBit e.b = true → (halfs e d 4).1.testBit e.a = true) := by
  have or1 : ∀ x u : Nat, (x ||| 2 ^ u).testBit u = true := fun x u => by rw [Nat.testBit_or, Nat.testBit_two_pow_self]; simp
  refine ⟨fun h => ?_, fun h => ?_, fun h => ?_, fun h => ?_⟩
  · have h1 : (halfs e d 1).2.testBit e.b = true := by
      show (half e 0 d).2.testBit e.b = true
      unfold half; rw [if_pos rfl, if_pos h]; exact or1 _ _
    exact sub_iff.1 (halfs_sub e d 1 3).2 _ h1
  · have h0 := sub_iff.1 (halfs_sub e d 0 1).1 _ (show (halfs e d 0).1.testBit e.b = true from h)
    have h1 : (halfs e d 2).2.testBit e.a = true := by
      show (half e 1 (halfs e d 1)).2.testBit e.a = true
      unfold half; rw [if_neg (by decide), if_pos rfl, if_pos h0]; exact or1 _ _
    exact sub_iff.1 (halfs_sub e d 2 2).2 _ h1
  · have h0 := sub_iff.1 (halfs_sub e d 0 2).2 _ (show (halfs e d 0).2.testBit e.a = true from h)
    have h1 : (halfs e d 3).1.testBit e.b = true := by
      show (half e 2 (halfs e d 2)).1.testBit e.b = true
      unfold half; rw [if_neg (by decide), if_neg (by decide), if_pos rfl, if_pos h0]; exact or1 _ _
    exact sub_iff.1 (halfs_sub e d 3 1).1 _ h1
  · have h0 := sub_iff.1 (halfs_sub e d 0 3).2 _ (show (halfs e d 0).2.testBit e.b = true from h)
    show (half e 3 (halfs e d 3)).1.testBit e.a = true
    unfold half; rw [if_neg (by decide), if_neg (by decide), if_neg (by decide), if_pos h0]; exact or1 _ _
theorem evR_end (L : G) (r : Nat) {i : Nat} (hi : i < L.length) : ((evR L r).1.testBit (L.getD i default).a = true → (evR L (r + 1)).2.testBit (L.getD i default).b = true) ∧ ((evR L r).1.testBit (L.getD i default).b = true → (evR L (r + 1)).2.testBit (L.getD i default).a = true) ∧ ((evR L r).2.testBit (L.getD i default).a = true → (evR L (r + 1)).1.testBit (L.getD i default).b = true) ∧ ((evR L r).2.testBit (L.getD i default).b = true → (evR L (r + 1)).1.testBit (L.getD i default).a = true) := by
  have h1 := evK_sub L (evR L r) 0 i
  rw [Nat.zero_add] at h1
  have h2 := evK_sub L (evR L r) (i + 1) (L.length - (i + 1))
  rw [show i + 1 + (L.length - (i + 1)) = L.length by omega] at h2
  have e1 : evK L (evR L r) L.length = evR L (r + 1) := rfl
  rw [e1] at h2
  obtain ⟨a1, a2, a3, a4⟩ := halfs_end (L.getD i default) (evK L (evR L r) i)
  exact ⟨fun h => sub_iff.1 h2.2 _ (a1 (sub_iff.1 h1.1 _ h)), fun h => sub_iff.1 h2.2 _ (a2 (sub_iff.1 h1.1 _ h)), fun h => sub_iff.1 h2.1 _ (a3 (sub_iff.1 h1.2 _ h)), fun h => sub_iff.1 h2.1 _ (a4 (sub_iff.1 h1.2 _ h))⟩
theorem half_lt {n : Nat} {e : E} (ha : e.a < n) (hb : e.b < n) (j : Nat) {d : Nat × Nat} (h : d.1 < 2 ^ n ∧ d.2 < 2 ^ n) : (half e j d).1 < 2 ^ n ∧ (half e j d).2 < 2 ^ n := by
  have pa : 2 ^ e.a < 2 ^ n := Nat.pow_lt_pow_right (by decide) ha
  have pb : 2 ^ e.b < 2 ^ n := Nat.pow_lt_pow_right (by decide) hb
  unfold half
  repeat' split
  all_goals first | exact h | exact ⟨h.1, Nat.or_lt_two_pow h.2 pb⟩ | exact ⟨h.1, Nat.or_lt_two_pow h.2 pa⟩ | exact ⟨Nat.or_lt_two_pow h.1 pb, h.2⟩ | exact ⟨Nat.or_lt_two_pow h.1 pa, h.2⟩
theorem halfs_lt {n : Nat} {e : E} (ha : e.a < n) (hb : e.b < n) {d : Nat × Nat} (h : d.1 < 2 ^ n ∧ d.2 < 2 ^ n) : ∀ j, (halfs e d j).1 < 2 ^ n ∧ (halfs e d j).2 < 2 ^ n
  | 0 => h
  | j + 1 => half_lt ha hb j (halfs_lt ha hb h j)
theorem evK_lt {n : Nat} {L : G} (hv : Val n L) {d : Nat × Nat} (h : d.1 < 2 ^ n ∧ d.2 < 2 ^ n) : ∀ k, k ≤ L.length → (evK L d k).1 < 2 ^ n ∧ (evK L d k).2 < 2 ^ n
  | 0, _ => h
  | k + 1, hk => by
    have := hv.get (i := k) (by omega)
    exact halfs_lt (by omega) this.2 (evK_lt hv h k (by omega)) 4
theorem evR_lt {n : Nat} {L : G} (h1 : 1 ≤ n) (hv : Val n L) : ∀ r, (evR L r).1 < 2 ^ n ∧ (evR L r).2 < 2 ^ n
  | 0 => ⟨Nat.one_lt_two_pow (by omega), Nat.two_pow_pos n⟩
  | r + 1 => evK_lt hv (evR_lt h1 hv r) _ (Nat.le_refl _)
/-- all corners are there after as many rounds as corners, less one -/
theorem evR_all {n : Nat} {L : G} (ok : Ok n L) : ∀ r, r < n → r + 1 ≤ (ones ((evR L r).1 ||| (evR L r).2)).length
  | 0, _ => by
    show 0 + 1 ≤ (ones (1 ||| 0)).length
    decide
  | r + 1, hr => by
    have ih := evR_all ok r (by omega)
    have hs := evR_sub L r 1
    have hsub : sub ((evR L r).1 ||| (evR L r).2) ((evR L (r + 1)).1 ||| (evR L (r + 1)).2) = true := sub_iff.2 fun i hi => by
      rw [Nat.testBit_or, Bool.or_eq_true] at hi ⊢
      rcases hi with hi | hi
      · exact .inl (sub_iff.1 hs.1 i hi)
      · exact .inr (sub_iff.1 hs.2 i hi)
    obtain ⟨l1, l2⟩ := evR_lt ok.n1 ok.val r
    have hU : (evR L r).1 ||| (evR L r).2 < 2 ^ n := Nat.or_lt_two_pow l1 l2
    by_cases hlt : (ones ((evR L r).1 ||| (evR L r).2)).length < n
    · -- some corner is not there; a street leads out
      have hex : ∃ i, i < L.length ∧ ((evR L r).1 ||| (evR L r).2).testBit (L.getD i default).a ≠ ((evR L r).1 ||| (evR L r).2).testBit (L.getD i default).b := by
        refine Classical.byContradiction fun hn => ?_
        have hc : ∀ e ∈ L, ((evR L r).1 ||| (evR L r).2).testBit e.a = ((evR L r).1 ||| (evR L r).2).testBit e.b := closed_all.1 fun i hi _ => Classical.byContradiction fun h => hn ⟨i, hi, h⟩
        have h0 : ((evR L r).1 ||| (evR L r).2).testBit 0 = true := by
          rw [Nat.testBit_or, sub_iff.1 (by have := (evR_sub L 0 r).1; rwa [Nat.zero_add] at this) 0 (show (1 : Nat).testBit 0 = true by decide)]; rfl
        have hall : ones ((evR L r).1 ||| (evR L r).2) = List.range n := asc_ext (ones_asc _) List.pairwise_lt_range fun v => by
          rw [mem_ones, List.mem_range]
          have := ok.n6; have := ok.n1
          constructor
          · intro h
            rcases Nat.lt_or_ge v n with h' | h'
            · exact h'
            · rw [Nat.testBit_lt_two_pow (Nat.lt_of_lt_of_le hU (Nat.pow_le_pow_right (by decide) h'))] at h; cases h.2
          · intro h
            exact ⟨by omega, by rw [ok.conn _ hc v 0 h (by omega)]; exact h0⟩
        rw [hall, List.length_range] at hlt; omega
      obtain ⟨i, hi, hne⟩ := hex
      obtain ⟨a1, a2, a3, a4⟩ := evR_end L r hi
      have hg := ok.val.get hi
      have h6 := ok.n6
      have grow : ∀ v, v < 9 → ((evR L r).1 ||| (evR L r).2).testBit v = false → ((evR L (r + 1)).1 ||| (evR L (r + 1)).2).testBit v = true → r + 1 + 1 ≤ (ones ((evR L (r + 1)).1 ||| (evR L (r + 1)).2)).length := fun v hv h1 h2 => by
        have := ones_len_lt hv hsub h1 h2; omega
      cases ha : ((evR L r).1 ||| (evR L r).2).testBit (L.getD i default).a with
      | true =>
        have hb : ((evR L r).1 ||| (evR L r).2).testBit (L.getD i default).b = false := by rw [ha] at hne; revert hne; cases ((evR L r).1 ||| (evR L r).2).testBit (L.getD i default).b <;> simp
        refine grow (L.getD i default).b (by omega) hb ?_
        rw [Nat.testBit_or, Bool.or_eq_true] at ha ⊢
        rcases ha with ha | ha
        · exact .inr (a1 ha)
        · exact .inl (a3 ha)
      | false =>
        have hb : ((evR L r).1 ||| (evR L r).2).testBit (L.getD i default).b = true := by rw [ha] at hne; revert hne; cases ((evR L r).1 ||| (evR L r).2).testBit (L.getD i default).b <;> simp
        refine grow (L.getD i default).a (by omega) ha ?_
        rw [Nat.testBit_or, Bool.or_eq_true] at hb ⊢
        rcases hb with hb | hb
        · exact .inr (a2 hb)
        · exact .inl (a4 hb)
    · have := ones_len_sub hsub
      omega
/-- the map is even just if there are two sides between which all streets lead -/
theorem evenB_iff {n : Nat} {L : G} (ok : Ok n L) : evenB n L = true ↔ ∃ c : Nat → Bool, ∀ e ∈ L, c e.a ≠ c e.b := by
  have h1 := ok.n1
  have h6 := ok.n6
  unfold evenB
  rw [beq_iff_eq]
  constructor
  · intro h
    obtain ⟨m, rfl⟩ : ∃ m, n = m + 1 := ⟨n - 1, by omega⟩
    have hall := evR_all ok m (by omega)
    obtain ⟨l1, l2⟩ := evR_lt h1 ok.val m
    have hU : (evR L m).1 ||| (evR L m).2 < 2 ^ (m + 1) := Nat.or_lt_two_pow l1 l2
    have hin : ∀ v, v < m + 1 → ((evR L m).1 ||| (evR L m).2).testBit v = true := fun v hv => by
      cases hb : ((evR L m).1 ||| (evR L m).2).testBit v with
      | true => rfl
      | false =>
        have := ones_len_lt (a := (evR L m).1 ||| (evR L m).2) (b := 2 ^ (m + 1) - 1) (i := v) (by omega) (sub_iff.2 fun i hi => by
          rw [full_bit, decide_eq_true_eq]
          rcases Nat.lt_or_ge i (m + 1) with h' | h'
          · exact h'
          · rw [Nat.testBit_lt_two_pow (Nat.lt_of_lt_of_le hU (Nat.pow_le_pow_right (by decide) h'))] at hi; cases hi) hb (by rw [full_bit]; simpa using hv)
        have e : ones (2 ^ (m + 1) - 1) = List.range (m + 1) := asc_ext (ones_asc _) List.pairwise_lt_range fun y => by
          rw [mem_ones, full_bit, decide_eq_true_eq, List.mem_range]; omega
        rw [e, List.length_range] at this; omega
    have hdis : ∀ v, (evR L (m + 1)).1.testBit v = true → (evR L (m + 1)).2.testBit v = true → False := fun v h2 h3 => by
      have := congrArg (fun x => Nat.testBit x v) h
      simp only [Nat.testBit_and, h2, h3, Nat.zero_testBit] at this; cases this
    refine ⟨fun v => (evR L (m + 1)).1.testBit v, fun e he => ?_⟩
    obtain ⟨i, hi, rfl⟩ := List.getElem_of_mem he
    have hgi : L.getD i default = L[i] := by rw [List.getD_eq_getElem?_getD, List.getElem?_eq_getElem hi]; rfl
    obtain ⟨a1, a2, a3, a4⟩ := evR_end L m hi
    have hg := ok.val.get hi
    have ha := hin _ (show (L.getD i default).a < m + 1 by omega)
    rw [hgi] at a1 a2 a3 a4 ha
    have hs := evR_sub L m 1
    rw [Nat.testBit_or, Bool.or_eq_true] at ha
    rcases ha with ha | ha
    · have hb : (evR L (m + 1)).1.testBit L[i].b = false := by
        cases hb : (evR L (m + 1)).1.testBit L[i].b with
        | false => rfl
        | true => exact (hdis _ hb (a1 ha)).elim
      show (evR L (m + 1)).1.testBit L[i].a ≠ (evR L (m + 1)).1.testBit L[i].b
      rw [hb, sub_iff.1 hs.1 _ ha]; decide
    · have hb : (evR L (m + 1)).1.testBit L[i].a = false := by
        cases hb : (evR L (m + 1)).1.testBit L[i].a with
        | false => rfl
        | true => exact (hdis _ hb (sub_iff.1 hs.2 _ ha)).elim
      show (evR L (m + 1)).1.testBit L[i].a ≠ (evR L (m + 1)).1.testBit L[i].b
      rw [hb, a3 ha]; decide
  · rintro ⟨c, hc⟩
    have hf := evR_fits (c := c) (L := L) (fun i hi => by
      rw [List.getD_eq_getElem?_getD, List.getElem?_eq_getElem hi]; exact hc _ (List.getElem_mem hi)) n
    apply Nat.eq_of_testBit_eq
    intro v
    rw [Nat.zero_testBit, Nat.testBit_and]
    cases ha : (evR L n).1.testBit v with
    | false => rfl
    | true =>
      cases hb : (evR L n).2.testBit v with
      | false => rfl
      | true =>
        have h2 := hf.p v ha; have h3 := hf.q v hb
        rw [h2] at h3; revert h3; cases c 0 <;> simp
end R2

namespace R2

theorem nodup_len : ∀ (n : Nat) (l : List Nat), l.Nodup → (∀ x ∈ l, x < n) → l.length ≤ n
  | 0, l, _, h => by
    cases l with
    | nil => simp
    | cons x l => have := h x (by simp); omega
  | n + 1, l, hn, h => by
    by_cases hm : n ∈ l
    · obtain ⟨A, B, rfl⟩ := List.append_of_mem hm
      rw [List.nodup_append] at hn
      obtain ⟨h1, h2, h3⟩ := hn
      have h2' := List.nodup_cons.1 h2
      have := nodup_len n (A ++ B) (List.nodup_append.2 ⟨h1, h2'.2, fun a ha b hb => h3 a ha b (by simp [hb])⟩) fun x hx => by
        have hx' : x ∈ A ++ n :: B := by rcases List.mem_append.1 hx with h | h <;> simp [h]
        have h4 := h x hx'
        have : x ≠ n := by
          rintro rfl
          rcases List.mem_append.1 hx with h | h
          · exact h3 x h x (by simp) rfl
          · exact h2'.1 h
        omega
      simp only [List.length_append, List.length_cons] at *
      omega
    · have := nodup_len n l hn fun x hx => by
        have h4 := h x hx
        have : x ≠ n := fun e => hm (e ▸ hx)
        omega
      omega
/-- corners that have been met -/
structure Met (n : Nat) (L : G) (met : List Nat) : Prop where
  nd : met.Nodup
  lt : ∀ v ∈ met, v < n
  zero : 0 ∈ met
  rch : ∀ v ∈ met, Rch L all1 0 v
theorem Met.len {n : Nat} {L : G} {met : List Nat} (h : Met n L met) : met.length ≤ n := nodup_len n met h.nd h.lt
/-- the other ends of a corner's streets are met, too -/
def Near (e : E) (u : Nat) (met : List Nat) : Prop := (e.a = u → e.b ∈ met) ∧ (e.b = u → e.a ∈ met)
def Done (L : G) (met : List Nat) (i : Nat) : Prop := ∀ j u, j < i → met[j]? = some u → ∀ e ∈ L, Near e u met
theorem Near.mono {e : E} {u : Nat} {met met' : List Nat} (h : Near e u met) (hs : ∀ x ∈ met, x ∈ met') : Near e u met' := ⟨fun e => hs _ (h.1 e), fun e => hs _ (h.2 e)⟩
theorem Met.add {n : Nat} {L : G} {met : List Nat} (hv : Val n L) (h : Met n L met) {e : E} (he : e ∈ L) {u v : Nat} (hu : u ∈ met) (hn : v ∉ met) (huv : e.a = u ∧ e.b = v ∨ e.b = u ∧ e.a = v) : Met n L (met ++ [v]) where
  nd := List.nodup_append.2 ⟨h.nd, by simp, fun a ha b hb => by rw [List.mem_singleton] at hb; subst hb; rintro rfl; exact hn ha⟩
  lt := fun x hx => by
    rcases List.mem_append.1 hx with hx | hx
    · exact h.lt x hx
    · rw [List.mem_singleton] at hx; subst hx
      have := hv e he
      rcases huv with h | h <;> omega
  zero := by simp [h.zero]
  rch := fun x hx => by
    rcases List.mem_append.1 hx with hx | hx
    · exact h.rch x hx
    · rw [List.mem_singleton] at hx; subst hx
      intro S hS h0
      have h1 := h.rch u hu S hS h0
      have h2 := closed_all.1 hS e he
      rcases huv with ⟨a, b⟩ | ⟨a, b⟩
      · rw [a, b] at h2; rw [← h2]; exact h1
      · rw [a, b] at h2; rw [h2]; exact h1
theorem Done.mono {L : G} {met : List Nat} {i v : Nat} (h : Done L met i) (hi : i ≤ met.length) : Done L (met ++ [v]) i := fun j u hj hg e he => by
  rw [List.getElem?_append_left (by omega)] at hg
  exact (h j u hj hg e he).mono fun x hx => by simp [hx]
end R2

namespace R2

/-! ### numbers and weights of sets of streets -/
def bx (X Y : Nat → Bool) : Nat → Bool := fun i => X i ^^ Y i
def one (i : Nat) : Nat → Bool := fun j => j == i
def cnt : Nat → (Nat → Bool) → Nat
  | 0, _ => 0
  | m + 1, X => cnt m X + if X m then 1 else 0
theorem cnt_le (m : Nat) (X : Nat → Bool) : cnt m X ≤ m := by
  induction m with
  | zero => simp [cnt]
  | succ m ih => rw [cnt]; split <;> omega
/-! ### ends of sets of streets -/
def Bd (n : Nat) (L : G) : Prop := ∀ e ∈ L, e.a < n ∧ e.b < n
theorem Bd.get {n : Nat} {L : G} (h : Bd n L) {i : Nat} (hi : i < L.length) : (st L i).a < n ∧ (st L i).b < n := by
  unfold st
  rw [List.getD_eq_getElem?_getD, List.getElem?_eq_getElem hi]
  exact h _ (List.getElem_mem hi)
abbrev bd (L : G) (X : Nat → Bool) (v : Nat) : Bool := xs L X (pt v)
theorem bd_bx (L : G) (X Y : Nat → Bool) (v : Nat) : bd L (bx X Y) v = (bd L X v ^^ bd L Y v) := xs_xorJ L X Y (pt v)
theorem bd_one {L : G} {i : Nat} (hi : i < L.length) (v : Nat) : bd L (one i) v = (((st L i).a == v) ^^ ((st L i).b == v)) := xs_single hi (pt v)
theorem path {L : G} {X : Nat → Bool} {u v : Nat} (h : Rch L X u v) : ∃ P : Nat → Bool, (∀ i, P i = true → X i = true) ∧ ∀ y, bd L P y = ((y == u) ^^ (y == v)) := by
  classical
  have := h (fun v => decide (∃ P : Nat → Bool, (∀ i, P i = true → X i = true) ∧ ∀ y, bd L P y = ((y == u) ^^ (y == v)))) (fun i hi hx => by
    have step : ∀ P : Nat → Bool, (∀ i, P i = true → X i = true) → ∀ j, bx P (one i) j = true → X j = true := fun P hP j hj => by
      by_cases e : j = i
      · rw [e]; exact hx
      · refine hP j ?_
        have : (P j ^^ (j == i)) = true := hj
        rw [show (j == i) = false by simpa using e, Bool.xor_false] at this
        exact this
    rw [Bool.eq_iff_iff, decide_eq_true_eq, decide_eq_true_eq]
    constructor
    · rintro ⟨P, h1, h2⟩
      refine ⟨bx P (one i), step P h1, fun y => ?_⟩
      rw [bd_bx, h2 y, bd_one hi, show ((st L i).a == y) = (y == (st L i).a) from Bool.beq_comm, show ((st L i).b == y) = (y == (st L i).b) from Bool.beq_comm]
      cases (y == u) <;> cases (y == (st L i).a) <;> cases (y == (st L i).b) <;> rfl
    · rintro ⟨P, h1, h2⟩
      refine ⟨bx P (one i), step P h1, fun y => ?_⟩
      rw [bd_bx, h2 y, bd_one hi, show ((st L i).a == y) = (y == (st L i).a) from Bool.beq_comm, show ((st L i).b == y) = (y == (st L i).b) from Bool.beq_comm]
      cases (y == u) <;> cases (y == (st L i).a) <;> cases (y == (st L i).b) <;> rfl) (by
    rw [decide_eq_true_eq]
    exact ⟨fun _ => false, fun i h => (by cases h), fun y => by rw [Bool.xor_self]; unfold bd xs; simp [xl_false]⟩)
  simpa using this
/-- the part of a set within a side that no street of it leaves -/
def part (L : G) (X S : Nat → Bool) : Nat → Bool := fun i => X i && S (st L i).a
/-- the street's other end -/
theorem far {n : Nat} {L : G} (hb : Bd n L) {i s : Nat} (hi : i < L.length) (h : cross (st L i) (pt s) = true) : ∃ z, z < n ∧ z ≠ s ∧ (∀ v, bd L (one i) v = ((v == s) ^^ (v == z))) ∧ ((st L i).a = s ∧ (st L i).b = z ∨ (st L i).a = z ∧ (st L i).b = s) := by
  have hg := hb.get hi
  unfold cross pt at h
  by_cases h1 : (st L i).a = s
  · have h2 : (st L i).b ≠ s := by intro e; rw [h1, e] at h; simp at h
    refine ⟨(st L i).b, hg.2, h2, fun v => ?_, .inl ⟨h1, rfl⟩⟩
    rw [bd_one hi, h1, show (s == v) = (v == s) from Bool.beq_comm, show ((st L i).b == v) = (v == (st L i).b) from Bool.beq_comm]
  · have h2 : (st L i).b = s := Classical.byContradiction fun e => by
      rw [show ((st L i).a == s) = false by simpa using h1, show ((st L i).b == s) = false by simpa using e] at h; simp at h
    refine ⟨(st L i).a, hg.1, h1, fun v => ?_, .inr ⟨rfl, h2⟩⟩
    rw [bd_one hi, h2, show (s == v) = (v == s) from Bool.beq_comm, show ((st L i).a == v) = (v == (st L i).a) from Bool.beq_comm]
    exact Bool.xor_comm _ _
end R2

namespace R2

/-- the first streets lead each corner to a smaller one -/
structure Tree (n : Nat) (L : G) : Prop where
  val : Val n L
  len : n ≤ L.length + 1
  top : ∀ i, i + 1 < n → (st L i).b = i + 1

theorem Tree.lt {n : Nat} {L : G} (h : Tree n L) {i : Nat} (hi : i + 1 < n) : i < L.length ∧ (st L i).a < i + 1 := by
  have hl := h.len
  have h1 : i < L.length := by omega
  have := h.val.get h1
  have e := h.top i hi
  have this : (st L i).a < (st L i).b ∧ (st L i).b < n := this
  exact ⟨h1, by omega⟩
/-- a set of streets as a number -/
def setM (L : G) (X : Nat → Bool) : Nat := maskOf ((List.range L.length).filter X)
theorem setM_bit (L : G) (X : Nat → Bool) (i : Nat) : (setM L X).testBit i = (decide (i < L.length) && X i) := by
  rw [Bool.eq_iff_iff, setM, maskOf_bit, List.mem_filter, List.mem_range, Bool.and_eq_true, decide_eq_true_eq]
theorem setM_lt (L : G) (X : Nat → Bool) : setM L X < 2 ^ L.length := maskOf_lt fun x hx => List.mem_range.1 (List.mem_filter.1 hx).1
/-! ### the fewest streets make no ring -/
theorem Rch.symm {L : G} {p : Nat → Bool} {u v : Nat} (h : Rch L p u v) : Rch L p v u := fun S hc hS => by
  have := h (fun x => !S x) (fun i hi hp => by simp only; rw [hc i hi hp])
  cases hu : S u with
  | true => rfl
  | false => rw [hu, hS] at this; exact absurd (this rfl) (by decide)
theorem Rch.trans {L : G} {p : Nat → Bool} {u v w : Nat} (h : Rch L p u v) (k : Rch L p v w) : Rch L p u w := fun S hc hS => k S hc (h S hc hS)
theorem Rch.mono {L : G} {p q : Nat → Bool} {u v : Nat} (h : Rch L p u v) (hs : ∀ i, p i = true → q i = true) : Rch L q u v := fun S hc hS => h S (fun i hi hp => hc i hi (hs i hp)) hS
end R2

namespace R2

theorem nodup_sub_len {α : Type} [BEq α] [LawfulBEq α] : ∀ {l l' : List α}, l.Nodup → (∀ x ∈ l, x ∈ l') → l.length ≤ l'.length
  | [], _, _, _ => Nat.zero_le _
  | x :: l, l', h, hs => by
    have h1 := List.nodup_cons.1 h
    have hx := hs x List.mem_cons_self
    have := nodup_sub_len (l := l) (l' := l'.erase x) h1.2 fun y hy => (List.mem_erase_of_ne (show y ≠ x from fun e => by rw [e] at hy; exact h1.1 hy)).2 (hs y (List.mem_cons_of_mem _ hy))
    rw [List.length_erase_of_mem hx] at this
    have := List.length_pos_of_mem hx
    simp only [List.length_cons]; omega
/-- numbers below n, put in another order -/
structure Bij (n : Nat) (f : Nat → Nat) : Prop where
  lt : ∀ v, v < n → f v < n
  inj : ∀ u v, u < n → v < n → f u = f v → u = v
theorem Bij.nodup {n : Nat} {f : Nat → Nat} (h : Bij n f) : ((List.range n).map f).Nodup :=
  List.pairwise_map.2 (List.Pairwise.imp_of_mem (fun {a b} ha hb hne e => hne (h.inj a b (List.mem_range.1 ha) (List.mem_range.1 hb) e)) List.nodup_range)
theorem Bij.surj {n : Nat} {f : Nat → Nat} (h : Bij n f) {v : Nat} (hv : v < n) : ∃ u, u < n ∧ f u = v := by
  refine Classical.byContradiction fun hn => ?_
  have h2 : (v :: (List.range n).map f).Nodup := List.nodup_cons.2 ⟨fun hm => by
    obtain ⟨u, hu, e⟩ := List.mem_map.1 hm
    exact hn ⟨u, List.mem_range.1 hu, e⟩, h.nodup⟩
  have := nodup_len n _ h2 fun x hx => by
    rcases List.mem_cons.1 hx with rfl | hx
    · exact hv
    · obtain ⟨u, hu, rfl⟩ := List.mem_map.1 hx
      exact h.lt u (List.mem_range.1 hu)
  rw [List.length_cons, List.length_map, List.length_range] at this
  omega
theorem Bij.perm {n : Nat} {f : Nat → Nat} (h : Bij n f) : ((List.range n).map f).Perm (List.range n) :=
  (List.perm_ext_iff_of_nodup h.nodup List.nodup_range).2 fun x => by
    rw [List.mem_map, List.mem_range]
    constructor
    · rintro ⟨u, hu, rfl⟩; exact h.lt u (List.mem_range.1 hu)
    · intro hx
      obtain ⟨u, hu, e⟩ := h.surj hx
      exact ⟨u, List.mem_range.2 hu, e⟩
noncomputable def inv (n : Nat) (f : Nat → Nat) (v : Nat) : Nat := open Classical in if h : ∃ u, u < n ∧ f u = v then h.choose else 0
theorem Bij.inv_spec {n : Nat} {f : Nat → Nat} (h : Bij n f) {v : Nat} (hv : v < n) : inv n f v < n ∧ f (inv n f v) = v := by
  unfold inv
  rw [dif_pos (h.surj hv)]
  exact (h.surj hv).choose_spec
theorem Bij.inv_left {n : Nat} {f : Nat → Nat} (h : Bij n f) {v : Nat} (hv : v < n) : inv n f (f v) = v := by
  obtain ⟨h1, h2⟩ := h.inv_spec (h.lt v hv)
  exact h.inj _ _ h1 hv h2
theorem Bij.symm {n : Nat} {f : Nat → Nat} (h : Bij n f) : Bij n (inv n f) where
  lt v hv := (h.inv_spec hv).1
  inj u v hu hv e := by rw [← (h.inv_spec hu).2, e, (h.inv_spec hv).2]
/-- the same map, but for names -/
structure Iso (n : Nat) (L L' : G) (p s : Nat → Nat) : Prop where
  len : L'.length = L.length
  pb : Bij n p
  sb : Bij L.length s
  st : ∀ i, i < L.length → ∀ S : Nat → Bool, cross (st L' i) S = cross (st L (s i)) fun v => S (p v)
theorem cross_inv {n : Nat} {e : E} (ha : e.a < e.b ∧ e.b < n) {p : Nat → Nat} (h : Bij n p) (S : Nat → Bool) : (cross e fun v => S (inv n p (p v))) = cross e S := by
  show (S (inv n p (p e.a)) ^^ S (inv n p (p e.b))) = _
  rw [h.inv_left (by omega), h.inv_left ha.2]; rfl
theorem Iso.symm {n : Nat} {L L' : G} {p s : Nat → Nat} (hv : Val n L) (h : Iso n L L' p s) : Iso n L' L (inv n p) (inv L.length s) where
  len := h.len.symm
  pb := h.pb.symm
  sb := by rw [h.len]; exact h.sb.symm
  st i hi S := by
    rw [h.len] at hi
    obtain ⟨h1, h2⟩ := h.sb.inv_spec hi
    rw [h.st _ h1, h2, cross_inv (hv.get hi) h.pb]
theorem Iso.xs {n : Nat} {L L' : G} {p s : Nat → Nat} (h : Iso n L L' p s) (J S : Nat → Bool) : xs L' (fun i => J (s i)) S = xs L J fun v => S (p v) := by
  unfold R2.xs
  rw [h.len]
  have e1 : xl (List.range L.length) (fun i => J (s i) && cross (L'.getD i default) S) = xl (List.range L.length) (fun i => (fun j => J j && cross (R2.st L j) fun v => S (p v)) (s i)) :=
    xl_congr fun i hi => by
      have := h.st i (List.mem_range.1 hi) S
      simp only
      rw [← this]
  have e2 := xl_map (List.range L.length) s (fun j => J j && cross (R2.st L j) fun v => S (p v))
  rw [e1, ← e2, xl_perm h.sb.perm]
theorem Iso.xs1 {n : Nat} {L L' : G} {p s : Nat → Nat} (h : Iso n L L' p s) (S : Nat → Bool) : R2.xs L' all1 S = R2.xs L all1 fun v => S (p v) := h.xs all1 S
theorem Iso.join {n : Nat} {L L' : G} {p s : Nat → Nat} (hv : Val n L) (h : Iso n L L' p s) {J : Nat → Bool} (hj : Join n L J) : Join n L' fun i => J (s i) := fun v _ => by
  rw [h.xs, h.xs1, hj.side hv]
/-- a set of streets under their new numbers -/
def trM (L : G) (s : Nat → Nat) (m : Nat) : Nat := setM L fun i => m.testBit (s i)
theorem trM_lt (L : G) (s : Nat → Nat) (m : Nat) : trM L s m < 2 ^ L.length := setM_lt _ _
theorem trM_bit {L : G} {s : Nat → Nat} (m : Nat) {i : Nat} (hi : i < L.length) : (trM L s m).testBit i = m.testBit (s i) := by
  unfold trM; rw [setM_bit, decide_eq_true hi, Bool.true_and]
theorem ones_filter {m d : Nat} (hm : m < 2 ^ d) (hd : d ≤ 9) : ones m = (List.range d).filter m.testBit :=
  asc_ext (ones_asc m) (List.Pairwise.filter _ List.pairwise_lt_range) fun x => by
    rw [mem_ones, List.mem_filter, List.mem_range]
    constructor
    · rintro ⟨_, h⟩
      exact ⟨ones_lt hm x (mem_ones.2 ⟨by assumption, h⟩), h⟩
    · rintro ⟨h1, h2⟩
      exact ⟨by omega, h2⟩
theorem trM_len {L : G} {s : Nat → Nat} (h : Bij L.length s) (hl : L.length ≤ 9) {m : Nat} (hm : m < 2 ^ L.length) : (ones (trM L s m)).length = (ones m).length := by
  rw [ones_filter (trM_lt L s m) hl, ones_filter hm hl]
  have e : (List.range L.length).filter (trM L s m).testBit = (List.range L.length).filter fun i => m.testBit (s i) := List.filter_congr fun i hi => trM_bit m (List.mem_range.1 hi)
  rw [e]
  have := (h.perm.filter m.testBit).length_eq
  rw [← this, List.filter_map, List.length_map]; rfl
theorem trM_okJ {n : Nat} {L L' : G} {p s : Nat → Nat} (hv : Val n L) (hv' : Val n L') (hl : L.length ≤ 9) (h : Iso n L L' p s) {m : Nat} (hm : m < 2 ^ L.length) (hj : okJ L m = true) : okJ L' (trM L s m) = true := by
  have hlt : trM L s m < 2 ^ L'.length := by rw [h.len]; exact trM_lt _ _ _
  refine (okJ_iff hv' (by rw [h.len]; exact hl) hlt).2 fun v hv2 => ?_
  have := h.join hv ((okJ_iff hv hl hm).1 hj) v hv2
  rw [← this]
  exact xs_congrJ (fun i hi => trM_bit m (by rw [← h.len]; exact hi)) _
theorem Iso.few_le {n : Nat} {L L' : G} {p s : Nat → Nat} (hv : Val n L) (hv' : Val n L') (hl : L.length ≤ 9) (h : Iso n L L' p s) : (fewM L').length ≤ (fewM L).length := by
  obtain ⟨m, hm, hj, e⟩ := (fewM_best L).mem
  have hb := (fewM_best L').le (ones (trM L s m)) ⟨_, by rw [h.len]; exact trM_lt _ _ _, trM_okJ hv hv' hl h hm hj, rfl⟩
  rw [e, ← trM_len h.sb hl hm]
  refine Nat.le_of_not_lt fun hlt => ?_
  rw [better_iff.2 (.inl hlt)] at hb; cases hb
theorem Iso.cnt_le {n : Nat} {L L' : G} {p s : Nat → Nat} (hv : Val n L) (hv' : Val n L') (hl : L.length ≤ 9) (h : Iso n L L' p s) : cntM L ≤ cntM L' := by
  unfold cntM
  rw [← List.length_map (f := trM L s)]
  refine nodup_sub_len ?_ fun x hx => ?_
  · refine List.pairwise_map.2 (List.Pairwise.imp_of_mem (fun {a b} ha hb hne e => hne ?_) (List.Nodup.sublist List.filter_sublist List.nodup_range))
    have ha := List.mem_range.1 (List.mem_filter.1 ha).1
    have hb := List.mem_range.1 (List.mem_filter.1 hb).1
    refine Nat.eq_of_testBit_eq fun i => ?_
    by_cases hi : i < L.length
    · obtain ⟨u, hu, rfl⟩ := h.sb.surj hi
      rw [← trM_bit a hu, ← trM_bit b hu, e]
    · rw [Nat.testBit_lt_two_pow (Nat.lt_of_lt_of_le ha (Nat.pow_le_pow_right (by decide) (by omega))), Nat.testBit_lt_two_pow (Nat.lt_of_lt_of_le hb (Nat.pow_le_pow_right (by decide) (by omega)))]
  · obtain ⟨m, hm, rfl⟩ := List.mem_map.1 hx
    obtain ⟨h1, h2⟩ := List.mem_filter.1 hm
    exact List.mem_filter.2 ⟨List.mem_range.2 (by rw [h.len]; exact trM_lt _ _ _), trM_okJ hv hv' hl h (List.mem_range.1 h1) h2⟩
theorem trM_cut {n : Nat} {L L' : G} {p s : Nat → Nat} (hv : Val n L) (h : Iso n L L' p s) (S : Nat → Bool) : trM L s (cutM L S) = cutM L' fun v => S (inv n p v) := by
  refine Nat.eq_of_testBit_eq fun i => ?_
  by_cases hi : i < L.length
  · have hs := h.sb.lt i hi
    rw [trM_bit _ hi, cutM_bit, cutM_bit, h.len, decide_eq_true hi, decide_eq_true hs, Bool.true_and, Bool.true_and]
    have := h.st i hi fun v => S (inv n p v)
    rw [show L'.getD i default = R2.st L' i from rfl, this, cross_inv (hv.get hs) h.pb]
  · unfold trM
    rw [setM_bit, cutM_bit L', h.len, decide_eq_false hi, Bool.false_and, Bool.false_and]
theorem Iso.wM {n : Nat} {L L' : G} {p s : Nat → Nat} (hv : Val n L) (hv' : Val n L') (hl : L.length ≤ 9) (h : Iso n L L' p s) {c : Nat} (hc : c ∈ wM n L) : trM L s c ∈ R2.wM n L' := by
  obtain ⟨S, hS, ho, rfl⟩ := (mem_wM hl).1 hc
  rw [trM_cut hv h]
  have hb : ∀ v, v < n → (maskOf ((List.range n).filter fun v => S.testBit (inv n p v))).testBit v = S.testBit (inv n p v) := fun v hv => by
    rw [Bool.eq_iff_iff, maskOf_bit, List.mem_filter, List.mem_range]
    exact ⟨fun h => h.2, fun h => ⟨hv, h⟩⟩
  refine (mem_wM (by rw [h.len]; exact hl)).2 ⟨maskOf ((List.range n).filter fun v => S.testBit (inv n p v)), maskOf_lt fun x hx => List.mem_range.1 (List.mem_filter.1 hx).1, ?_, ?_⟩
  · unfold oddS at ho ⊢
    rw [xs_congrS hv' hb, h.xs1, ← ho]
    exact xs_congrS hv (fun v hv2 => by rw [h.pb.inv_left hv2]) _
  · refine Nat.eq_of_testBit_eq fun i => ?_
    rw [cutM_bit, cutM_bit]
    by_cases hi : i < L'.length
    · have hv2 := hv'.get hi
      rw [decide_eq_true hi, Bool.true_and, Bool.true_and]
      show (S.testBit (inv n p _) ^^ S.testBit (inv n p _)) = (_ ^^ _)
      rw [hb _ (by omega), hb _ hv2.2]
    · rw [decide_eq_false hi, Bool.false_and, Bool.false_and]
theorem trM_disj {L : G} {s : Nat → Nat} {a b : Nat} (h : disj a b = true) : disj (trM L s a) (trM L s b) = true :=
  disj_iff.2 fun i h1 h2 => by
    unfold trM at h1 h2
    rw [setM_bit, Bool.and_eq_true] at h1 h2
    exact disj_iff.1 h _ h1.2 h2.2
theorem Iso.cuts_le {n : Nat} {L L' : G} {p s : Nat → Nat} (hv : Val n L) (hv' : Val n L') (hl : L.length ≤ 9) (h : Iso n L L' p s) : (cutsM n L).length ≤ (cutsM n L').length := by
  unfold cutsM
  rw [List.length_map, List.length_map]
  obtain ⟨⟨f1, f2⟩, _, _⟩ := packL_spec (R2.wM n L).length (R2.wM n L) (Nat.le_refl _) (wM_ne hl)
  have := (packL_spec (R2.wM n L').length (R2.wM n L') (Nat.le_refl _) (wM_ne (by rw [h.len]; exact hl))).2.1 ((packL (R2.wM n L)).map (trM L s)) ⟨fun x hx => by
    obtain ⟨c, hc, rfl⟩ := List.mem_map.1 hx
    exact h.wM hv hv' hl (f1 c hc), List.pairwise_map.2 (f2.imp fun {a b} hab => trM_disj hab)⟩
  rwa [List.length_map] at this
theorem Iso.even {n : Nat} {L L' : G} {p s : Nat → Nat} (ok : Ok n L) (ok' : Ok n L') (h : Iso n L L' p s) (he : evenB n L = true) : evenB n L' = true := by
  obtain ⟨c, hc⟩ := (evenB_iff ok).1 he
  refine (evenB_iff ok').2 ⟨fun v => c (inv n p v), fun e he => ?_⟩
  obtain ⟨i, hi, rfl⟩ := List.getElem_of_mem he
  have hi2 : i < L.length := by rw [← h.len]; exact hi
  have hs := h.sb.lt i hi2
  have h1 := h.st i hi2 fun v => c (inv n p v)
  rw [cross_inv (ok.val.get hs) h.pb] at h1
  have hm : R2.st L (s i) ∈ L := by
    unfold R2.st
    rw [List.getD_eq_getElem?_getD, List.getElem?_eq_getElem hs]; exact List.getElem_mem hs
  have h2 := hc _ hm
  have e1 : R2.st L' i = L'[i] := by unfold R2.st; rw [List.getD_eq_getElem?_getD, List.getElem?_eq_getElem hi]; rfl
  rw [e1] at h1
  have h1 : (c (inv n p (L'[i]).a) ^^ c (inv n p (L'[i]).b)) = (c (R2.st L (s i)).a ^^ c (R2.st L (s i)).b) := h1
  intro heq
  simp only at heq
  rw [heq, Bool.xor_self] at h1
  revert h2 h1
  cases c (R2.st L (s i)).a <;> cases c (R2.st L (s i)).b <;> decide
/-- all that the statement asks for -/
theorem Iso.same {n : Nat} {L L' : G} {p s : Nat → Nat} (ok : Ok n L) (ok' : Ok n L') (h : Iso n L L' p s) : (fewM L').length = (fewM L).length ∧ cntM L' = cntM L ∧ (cutsM n L').length = (cutsM n L).length ∧ evenB n L' = evenB n L := by
  have k := h.symm ok.val
  refine ⟨Nat.le_antisymm (h.few_le ok.val ok'.val ok.len) (k.few_le ok'.val ok.val ok'.len), Nat.le_antisymm (k.cnt_le ok'.val ok.val ok'.len) (h.cnt_le ok.val ok'.val ok.len),
    Nat.le_antisymm (k.cuts_le ok'.val ok.val ok'.len) (h.cuts_le ok.val ok'.val ok.len), ?_⟩
  rw [Bool.eq_iff_iff]
  exact ⟨k.even ok' ok, h.even ok ok'⟩

/-! ### the map of the statement -/
end R2
