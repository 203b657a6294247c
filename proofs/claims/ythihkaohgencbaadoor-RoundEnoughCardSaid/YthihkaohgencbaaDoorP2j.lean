/-
  Chapter 02 in plain words: odd corners in a side; sides that are a proof; whether a map is even. Conditions: none.
  Chapter 02 in plain words: in an even map there are as many cuts of a proof as streets have to be gone twice (Seymour's theorem, by Sebo's proof). Conditions: none.
  Chapter 02, plain: a map whose first streets are a tree; how many sets are enough; the fewest streets make no ring. Conditions: none.
  Chapter 02, plain: the map that is drawn by numbers. Conditions: none.
-/
import Derived.Test.YthihkaohgencbaaDoorP2f
import Derived.Test.YthihkaohgencbaaDoorP2e
set_option linter.unusedVariables false
set_option linter.unusedSimpArgs false
set_option linter.deprecated false
namespace R2

theorem oddS_len {n : Nat} {L : G} (hv : Val n L) (h6 : n ≤ 6) (hl : L.length ≤ 9) {s : Nat} (hs : s < 2 ^ n) : oddS L s = decide ((ones (s &&& oddM L)).length % 2 = 1) := by
  unfold oddS ones
  rw [xs_sum hv, ← xl_len]
  have e := xl_range_le (k := n) (n := 9) (f := fun i => (s &&& oddM L).testBit i) (by omega) (fun i hi => by
    show (s &&& oddM L).testBit i = false
    rw [Nat.testBit_and, Nat.testBit_lt_two_pow (Nat.lt_of_lt_of_le hs (Nat.pow_le_pow_right (by decide) hi))]; rfl)
  refine Eq.trans ?_ e.symm
  apply xl_congr
  intro v _
  show _ = (s &&& oddM L).testBit v
  rw [Nat.testBit_and, oddM_bit hv hl]
/-- the error of sides, after some streets are used -/
def prvE (n : Nat) (L : G) : Nat → List (List Int) → Int
  | _, [] => 0
  | u, s :: ss => if sidedE n s ≠ 0 then sidedE n s else if oddS L (listedM n s) = false then 14 else if u &&& cutM L (listedM n s).testBit ≠ 0 then 6 else prvE n L (u ||| cutM L (listedM n s).testBit) ss
theorem sidedE_list {n : Nat} {l : List Int} (h : sidedE n l = 0) : lstE n (-1) l = 0 := by
  unfold sidedE at h
  split at h
  · assumption
  · exact h

/-! ### two sides -/
/-- one of the four steps for a street -/
def half (e : E) (j : Nat) (d : Nat × Nat) : Nat × Nat :=
  if j = 0 then (if d.1.testBit e.a then (d.1, d.2 ||| 2 ^ e.b) else d)
  else if j = 1 then (if d.1.testBit e.b then (d.1, d.2 ||| 2 ^ e.a) else d)
  else if j = 2 then (if d.2.testBit e.a then (d.1 ||| 2 ^ e.b, d.2) else d)
  else (if d.2.testBit e.b then (d.1 ||| 2 ^ e.a, d.2) else d)
def halfs (e : E) (d : Nat × Nat) : Nat → Nat × Nat
  | 0 => d
  | j + 1 => half e j (halfs e d j)
def evK (L : G) (d : Nat × Nat) : Nat → Nat × Nat
  | 0 => d
  | k + 1 => halfs (L.getD k default) (evK L d k) 4
def evR (L : G) : Nat → Nat × Nat
  | 0 => (1, 0)
  | k + 1 => evK L (evR L k) L.length
def evenB (n : Nat) (L : G) : Bool := (evR L n).1 &&& (evR L n).2 == 0
def Sub2 (d d' : Nat × Nat) : Prop := sub d.1 d'.1 = true ∧ sub d.2 d'.2 = true
theorem Sub2.refl (d : Nat × Nat) : Sub2 d d := ⟨sub_refl _, sub_refl _⟩
theorem Sub2.trans {a b c : Nat × Nat} (h : Sub2 a b) (k : Sub2 b c) : Sub2 a c := ⟨sub_trans h.1 k.1, sub_trans h.2 k.2⟩
theorem sub_or (a b : Nat) : sub a (a ||| b) = true := sub_iff.2 fun i hi => by rw [Nat.testBit_or, hi]; rfl
theorem half_sub (e : E) (j : Nat) (d : Nat × Nat) : Sub2 d (half e j d) := by
  unfold half
  repeat' split
  all_goals first | exact Sub2.refl d | exact ⟨sub_refl _, sub_or _ _⟩ | exact ⟨sub_or _ _, sub_refl _⟩
theorem halfs_sub (e : E) (d : Nat × Nat) (i : Nat) : ∀ j, Sub2 (halfs e d i) (halfs e d (i + j))
  | 0 => Sub2.refl _
  | j + 1 => (halfs_sub e d i j).trans (half_sub e (i + j) _)
theorem evK_sub (L : G) (d : Nat × Nat) (i : Nat) : ∀ j, Sub2 (evK L d i) (evK L d (i + j))
  | 0 => Sub2.refl _
  | j + 1 => by
    refine (evK_sub L d i j).trans ?_
    show Sub2 _ (halfs (L.getD (i + j) default) (evK L d (i + j)) 4)
    have := halfs_sub (L.getD (i + j) default) (evK L d (i + j)) 0 4
    exact this
theorem evR_sub (L : G) (i : Nat) : ∀ j, Sub2 (evR L i) (evR L (i + j))
  | 0 => Sub2.refl _
  | j + 1 => (evR_sub L i j).trans (by
    have := evK_sub L (evR L (i + j)) 0 L.length
    rw [Nat.zero_add] at this
    exact this)
/-- what keeps: corners are on the side of their colour -/
structure Fits (c : Nat → Bool) (d : Nat × Nat) : Prop where
  p : ∀ v, d.1.testBit v = true → c v = c 0
  q : ∀ v, d.2.testBit v = true → c v = !c 0
theorem half_fits {c : Nat → Bool} {e : E} (he : c e.a ≠ c e.b) (j : Nat) {d : Nat × Nat} (h : Fits c d) : Fits c (half e j d) := by
  have hab : c e.b = !c e.a := by revert he; cases c e.a <;> cases c e.b <;> simp
  have hba : c e.a = !c e.b := by revert he; cases c e.a <;> cases c e.b <;> simp
  unfold half
  repeat' split
  all_goals first | exact h | skip
  all_goals rename_i hb
  · exact ⟨h.p, fun v hv => by
      rw [Nat.testBit_or, Bool.or_eq_true, two_bit] at hv
      rcases hv with hv | rfl
      · exact h.q v hv
      · rw [hab, h.p _ hb]⟩
  · exact ⟨h.p, fun v hv => by
      rw [Nat.testBit_or, Bool.or_eq_true, two_bit] at hv
      rcases hv with hv | rfl
      · exact h.q v hv
      · rw [hba, h.p _ hb]⟩
  · exact ⟨fun v hv => by
      rw [Nat.testBit_or, Bool.or_eq_true, two_bit] at hv
      rcases hv with hv | rfl
      · exact h.p v hv
      · rw [hab, h.q _ hb, Bool.not_not], h.q⟩
  · exact ⟨fun v hv => by
      rw [Nat.testBit_or, Bool.or_eq_true, two_bit] at hv
      rcases hv with hv | rfl
      · exact h.p v hv
      · rw [hba, h.q _ hb, Bool.not_not], h.q⟩
where two_bit {u v : Nat} : (2 ^ u).testBit v = true ↔ v = u := by rw [Nat.testBit_two_pow, decide_eq_true_eq]; exact eq_comm
theorem evK_fits {c : Nat → Bool} {L : G} (hc : ∀ i, i < L.length → c (L.getD i default).a ≠ c (L.getD i default).b) {d : Nat × Nat} (h : Fits c d) : ∀ k, k ≤ L.length → Fits c (evK L d k)
  | 0, _ => h
  | k + 1, hk => by
    have ih := evK_fits hc h k (by omega)
    have : ∀ j, Fits c (halfs (L.getD k default) (evK L d k) j) := fun j => by
      induction j with
      | zero => exact ih
      | succ j ihj => exact half_fits (hc k (by omega)) j ihj
    exact this 4
theorem evR_fits {c : Nat → Bool} {L : G} (hc : ∀ i, i < L.length → c (L.getD i default).a ≠ c (L.getD i default).b) : ∀ k, Fits c (evR L k)
  | 0 => ⟨fun v hv => by
      have : v = 0 := by
        have h : (2 ^ 0).testBit v = true := hv
        rw [Nat.testBit_two_pow, decide_eq_true_eq] at h; exact h.symm
      rw [this], fun v hv => by
      have h : (0 : Nat).testBit v = true := hv
      rw [Nat.zero_testBit] at h; cases h⟩
  | k + 1 => evK_fits hc (evR_fits hc k) _ (Nat.le_refl _)
/-- after a street whose end is there its other end is on the other side -/
theorem halfs_end (e : E) (d : Nat × Nat) : (d.1.testBit e.a = true → (halfs e d 4).2.testBit e.b = true) ∧ (d.1.testBit e.b = true → (halfs e d 4).2.testBit e.a = true) ∧ (d.2.testBit e.a = true → (halfs e d 4).1.testBit e.b = true) ∧ (d.2.testBit e.b = true → (halfs e d 4).1.testBit e.a = true) := by
  have or1 : ∀ x u : Nat, (x ||| 2 ^ u).testBit u = true := fun x u => by rw [Nat.testBit_or, Nat.testBit_two_pow_self]; simp
  refine ⟨fun h => ?_, fun h => ?_, fun h => ?_, fun h => ?_⟩
  · have h1 : (halfs e d 1).2.testBit e.b = true := by
      show (half e 0 d).2.testBit e.b = true
      unfold half; rw [if_pos rfl, if_pos h]; exact or1 _ _
    exact sub_iff.1 (halfs_sub e d 1 3).2 _ h1
  · have h0 := sub_iff.1 (halfs_sub e d 0 1).1 _ (show (halfs e d 0).1.testBit e.b = true from h)
    have h1 : (halfs e d 2).2.testBit e.a = true := by
      show (half e 1 (halfs e d 1)).2.testBit e.a = true
      unfold half; rw [if_neg (by decide), if_pos rfl, if_pos h0]; exact or1 _ _
    exact sub_iff.1 (halfs_sub e d 2 2).2 _ h1
  · have h0 := sub_iff.1 (halfs_sub e d 0 2).2 _ (show (halfs e d 0).2.testBit e.a = true from h)
    have h1 : (halfs e d 3).1.testBit e.b = true := by
      show (half e 2 (halfs e d 2)).1.testBit e.b = true
      unfold half; rw [if_neg (by decide), if_neg (by decide), if_pos rfl, if_pos h0]; exact or1 _ _
    exact sub_iff.1 (halfs_sub e d 3 1).1 _ h1
  · have h0 := sub_iff.1 (halfs_sub e d 0 3).2 _ (show (halfs e d 0).2.testBit e.b = true from h)
    show (half e 3 (halfs e d 3)).1.testBit e.a = true
    unfold half; rw [if_neg (by decide), if_neg (by decide), if_neg (by decide), if_pos h0]; exact or1 _ _
theorem evR_end (L : G) (r : Nat) {i : Nat} (hi : i < L.length) : ((evR L r).1.testBit (L.getD i default).a = true → (evR L (r + 1)).2.testBit (L.getD i default).b = true) ∧ ((evR L r).1.testBit (L.getD i default).b = true → (evR L (r + 1)).2.testBit (L.getD i default).a = true) ∧ ((evR L r).2.testBit (L.getD i default).a = true → (evR L (r + 1)).1.testBit (L.getD i default).b = true) ∧ ((evR L r).2.testBit (L.getD i default).b = true → (evR L (r + 1)).1.testBit (L.getD i default).a = true) := by
  have h1 := evK_sub L (evR L r) 0 i
  rw [Nat.zero_add] at h1
  have h2 := evK_sub L (evR L r) (i + 1) (L.length - (i + 1))
  rw [show i + 1 + (L.length - (i + 1)) = L.length by omega] at h2
  have e1 : evK L (evR L r) L.length = evR L (r + 1) := rfl
  rw [e1] at h2
  obtain ⟨a1, a2, a3, a4⟩ := halfs_end (L.getD i default) (evK L (evR L r) i)
  exact ⟨fun h => sub_iff.1 h2.2 _ (a1 (sub_iff.1 h1.1 _ h)), fun h => sub_iff.1 h2.2 _ (a2 (sub_iff.1 h1.1 _ h)), fun h => sub_iff.1 h2.1 _ (a3 (sub_iff.1 h1.2 _ h)), fun h => sub_iff.1 h2.1 _ (a4 (sub_iff.1 h1.2 _ h))⟩
theorem half_lt {n : Nat} {e : E} (ha : e.a < n) (hb : e.b < n) (j : Nat) {d : Nat × Nat} (h : d.1 < 2 ^ n ∧ d.2 < 2 ^ n) : (half e j d).1 < 2 ^ n ∧ (half e j d).2 < 2 ^ n := by
  have pa : 2 ^ e.a < 2 ^ n := Nat.pow_lt_pow_right (by decide) ha
  have pb : 2 ^ e.b < 2 ^ n := Nat.pow_lt_pow_right (by decide) hb
  unfold half
  repeat' split
  all_goals first | exact h | exact ⟨h.1, Nat.or_lt_two_pow h.2 pb⟩ | exact ⟨h.1, Nat.or_lt_two_pow h.2 pa⟩ | exact ⟨Nat.or_lt_two_pow h.1 pb, h.2⟩ | exact ⟨Nat.or_lt_two_pow h.1 pa, h.2⟩
theorem halfs_lt {n : Nat} {e : E} (ha : e.a < n) (hb : e.b < n) {d : Nat × Nat} (h : d.1 < 2 ^ n ∧ d.2 < 2 ^ n) : ∀ j, (halfs e d j).1 < 2 ^ n ∧ (halfs e d j).2 < 2 ^ n
  | 0 => h
  | j + 1 => half_lt ha hb j (halfs_lt ha hb h j)
theorem evK_lt {n : Nat} {L : G} (hv : Val n L) {d : Nat × Nat} (h : d.1 < 2 ^ n ∧ d.2 < 2 ^ n) : ∀ k, k ≤ L.length → (evK L d k).1 < 2 ^ n ∧ (evK L d k).2 < 2 ^ n
  | 0, _ => h
  | k + 1, hk => by
    have := hv.get (i := k) (by omega)
    exact halfs_lt (by omega) this.2 (evK_lt hv h k (by omega)) 4
theorem evR_lt {n : Nat} {L : G} (h1 : 1 ≤ n) (hv : Val n L) : ∀ r, (evR L r).1 < 2 ^ n ∧ (evR L r).2 < 2 ^ n
  | 0 => ⟨Nat.one_lt_two_pow (by omega), Nat.two_pow_pos n⟩
  | r + 1 => evK_lt hv (evR_lt h1 hv r) _ (Nat.le_refl _)
/-- all corners are there after as many rounds as corners, less one -/
theorem evR_all {n : Nat} {L : G} (ok : Ok n L) : ∀ r, r < n → r + 1 ≤ (ones ((evR L r).1 ||| (evR L r).2)).length
  | 0, _ => by
    show 0 + 1 ≤ (ones (1 ||| 0)).length
    decide
  | r + 1, hr => by
    have ih := evR_all ok r (by omega)
    have hs := evR_sub L r 1
    have hsub : sub ((evR L r).1 ||| (evR L r).2) ((evR L (r + 1)).1 ||| (evR L (r + 1)).2) = true := sub_iff.2 fun i hi => by
      rw [Nat.testBit_or, Bool.or_eq_true] at hi ⊢
      rcases hi with hi | hi
      · exact .inl (sub_iff.1 hs.1 i hi)
      · exact .inr (sub_iff.1 hs.2 i hi)
    obtain ⟨l1, l2⟩ := evR_lt ok.n1 ok.val r
    have hU : (evR L r).1 ||| (evR L r).2 < 2 ^ n := Nat.or_lt_two_pow l1 l2
    by_cases hlt : (ones ((evR L r).1 ||| (evR L r).2)).length < n
    · -- some corner is not there; a street leads out
      have hex : ∃ i, i < L.length ∧ ((evR L r).1 ||| (evR L r).2).testBit (L.getD i default).a ≠ ((evR L r).1 ||| (evR L r).2).testBit (L.getD i default).b := by
        refine Classical.byContradiction fun hn => ?_
        have hc : ∀ e ∈ L, ((evR L r).1 ||| (evR L r).2).testBit e.a = ((evR L r).1 ||| (evR L r).2).testBit e.b := closed_all.1 fun i hi _ => Classical.byContradiction fun h => hn ⟨i, hi, h⟩
        have h0 : ((evR L r).1 ||| (evR L r).2).testBit 0 = true := by
          rw [Nat.testBit_or, sub_iff.1 (by have := (evR_sub L 0 r).1; rwa [Nat.zero_add] at this) 0 (show (1 : Nat).testBit 0 = true by decide)]; rfl
        have hall : ones ((evR L r).1 ||| (evR L r).2) = List.range n := asc_ext (ones_asc _) List.pairwise_lt_range fun v => by
          rw [mem_ones, List.mem_range]
          have := ok.n6; have := ok.n1
          constructor
          · intro h
            rcases Nat.lt_or_ge v n with h' | h'
            · exact h'
            · rw [Nat.testBit_lt_two_pow (Nat.lt_of_lt_of_le hU (Nat.pow_le_pow_right (by decide) h'))] at h; cases h.2
          · intro h
            exact ⟨by omega, by rw [ok.conn _ hc v 0 h (by omega)]; exact h0⟩
        rw [hall, List.length_range] at hlt; omega
      obtain ⟨i, hi, hne⟩ := hex
      obtain ⟨a1, a2, a3, a4⟩ := evR_end L r hi
      have hg := ok.val.get hi
      have h6 := ok.n6
      have grow : ∀ v, v < 9 → ((evR L r).1 ||| (evR L r).2).testBit v = false → ((evR L (r + 1)).1 ||| (evR L (r + 1)).2).testBit v = true → r + 1 + 1 ≤ (ones ((evR L (r + 1)).1 ||| (evR L (r + 1)).2)).length := fun v hv h1 h2 => by
        have := ones_len_lt hv hsub h1 h2; omega
      cases ha : ((evR L r).1 ||| (evR L r).2).testBit (L.getD i default).a with
      | true =>
        have hb : ((evR L r).1 ||| (evR L r).2).testBit (L.getD i default).b = false := by rw [ha] at hne; revert hne; cases ((evR L r).1 ||| (evR L r).2).testBit (L.getD i default).b <;> simp
        refine grow (L.getD i default).b (by omega) hb ?_
        rw [Nat.testBit_or, Bool.or_eq_true] at ha ⊢
        rcases ha with ha | ha
        · exact .inr (a1 ha)
        · exact .inl (a3 ha)
      | false =>
        have hb : ((evR L r).1 ||| (evR L r).2).testBit (L.getD i default).b = true := by rw [ha] at hne; revert hne; cases ((evR L r).1 ||| (evR L r).2).testBit (L.getD i default).b <;> simp
        refine grow (L.getD i default).a (by omega) ha ?_
        rw [Nat.testBit_or, Bool.or_eq_true] at hb ⊢
        rcases hb with hb | hb
        · exact .inr (a2 hb)
        · exact .inl (a4 hb)
    · have := ones_len_sub hsub
      omega
/-- the map is even just if there are two sides between which all streets lead -/
theorem evenB_iff {n : Nat} {L : G} (ok : Ok n L) : evenB n L = true ↔ ∃ c : Nat → Bool, ∀ e ∈ L, c e.a ≠ c e.b := by
  have h1 := ok.n1
  have h6 := ok.n6
  unfold evenB
  rw [beq_iff_eq]
  constructor
  · intro h
    obtain ⟨m, rfl⟩ : ∃ m, n = m + 1 := ⟨n - 1, by omega⟩
    have hall := evR_all ok m (by omega)
    obtain ⟨l1, l2⟩ := evR_lt h1 ok.val m
    have hU : (evR L m).1 ||| (evR L m).2 < 2 ^ (m + 1) := Nat.or_lt_two_pow l1 l2
    have hin : ∀ v, v < m + 1 → ((evR L m).1 ||| (evR L m).2).testBit v = true := fun v hv => by
      cases hb : ((evR L m).1 ||| (evR L m).2).testBit v with
      | true => rfl
      | false =>
        have := ones_len_lt (a := (evR L m).1 ||| (evR L m).2) (b := 2 ^ (m + 1) - 1) (i := v) (by omega) (sub_iff.2 fun i hi => by
          rw [full_bit, decide_eq_true_eq]
          rcases Nat.lt_or_ge i (m + 1) with h' | h'
          · exact h'
          · rw [Nat.testBit_lt_two_pow (Nat.lt_of_lt_of_le hU (Nat.pow_le_pow_right (by decide) h'))] at hi; cases hi) hb (by rw [full_bit]; simpa using hv)
        have e : ones (2 ^ (m + 1) - 1) = List.range (m + 1) := asc_ext (ones_asc _) List.pairwise_lt_range fun y => by
          rw [mem_ones, full_bit, decide_eq_true_eq, List.mem_range]; omega
        rw [e, List.length_range] at this; omega
    have hdis : ∀ v, (evR L (m + 1)).1.testBit v = true → (evR L (m + 1)).2.testBit v = true → False := fun v h2 h3 => by
      have := congrArg (fun x => Nat.testBit x v) h
      simp only [Nat.testBit_and, h2, h3, Nat.zero_testBit] at this; cases this
    refine ⟨fun v => (evR L (m + 1)).1.testBit v, fun e he => ?_⟩
    obtain ⟨i, hi, rfl⟩ := List.getElem_of_mem he
    have hgi : L.getD i default = L[i] := by rw [List.getD_eq_getElem?_getD, List.getElem?_eq_getElem hi]; rfl
    obtain ⟨a1, a2, a3, a4⟩ := evR_end L m hi
    have hg := ok.val.get hi
    have ha := hin _ (show (L.getD i default).a < m + 1 by omega)
    rw [hgi] at a1 a2 a3 a4 ha
    have hs := evR_sub L m 1
    rw [Nat.testBit_or, Bool.or_eq_true] at ha
    rcases ha with ha | ha
    · have hb : (evR L (m + 1)).1.testBit L[i].b = false := by
        cases hb : (evR L (m + 1)).1.testBit L[i].b with
        | false => rfl
        | true => exact (hdis _ hb (a1 ha)).elim
      show (evR L (m + 1)).1.testBit L[i].a ≠ (evR L (m + 1)).1.testBit L[i].b
      rw [hb, sub_iff.1 hs.1 _ ha]; decide
    · have hb : (evR L (m + 1)).1.testBit L[i].a = false := by
        cases hb : (evR L (m + 1)).1.testBit L[i].a with
        | false => rfl
        | true => exact (hdis _ hb (sub_iff.1 hs.2 _ ha)).elim
      show (evR L (m + 1)).1.testBit L[i].a ≠ (evR L (m + 1)).1.testBit L[i].b
      rw [hb, a3 ha]; decide
  · rintro ⟨c, hc⟩
    have hf := evR_fits (c := c) (L := L) (fun i hi => by
      rw [List.getD_eq_getElem?_getD, List.getElem?_eq_getElem hi]; exact hc _ (List.getElem_mem hi)) n
    apply Nat.eq_of_testBit_eq
    intro v
    rw [Nat.zero_testBit, Nat.testBit_and]
    cases ha : (evR L n).1.testBit v with
    | false => rfl
    | true =>
      cases hb : (evR L n).2.testBit v with
      | false => rfl
      | true =>
        have h2 := hf.p v ha; have h3 := hf.q v hb
        rw [h2] at h3; revert h3; cases c 0 <;> simp
end R2

namespace R2

/-! ### numbers and weights of sets of streets -/
def bx (X Y : Nat → Bool) : Nat → Bool := fun i => X i ^^ Y i
def one (i : Nat) : Nat → Bool := fun j => j == i
def cnt : Nat → (Nat → Bool) → Nat
  | 0, _ => 0
  | m + 1, X => cnt m X + if X m then 1 else 0
/-- streets of J count -1, others 1 -/
def wt : Nat → (Nat → Bool) → (Nat → Bool) → Int
  | 0, _, _ => 0
  | m + 1, J, X => wt m J X + if X m then (if J m then -1 else 1) else 0
theorem cnt_le (m : Nat) (X : Nat → Bool) : cnt m X ≤ m := by
  induction m with
  | zero => simp [cnt]
  | succ m ih => rw [cnt]; split <;> omega
theorem wt_bd (m : Nat) (J X : Nat → Bool) : -(m : Int) ≤ wt m J X ∧ wt m J X ≤ m := by
  induction m with
  | zero => simp [wt]
  | succ m ih => rw [wt]; split <;> (try split) <;> omega
theorem cnt_congr {m : Nat} {X Y : Nat → Bool} (h : ∀ i, i < m → X i = Y i) : cnt m X = cnt m Y := by
  induction m with
  | zero => rfl
  | succ m ih => rw [cnt, cnt, ih fun i hi => h i (by omega), h m (by omega)]
theorem wt_congr {m : Nat} {J X Y : Nat → Bool} (h : ∀ i, i < m → X i = Y i) : wt m J X = wt m J Y := by
  induction m with
  | zero => rfl
  | succ m ih => rw [wt, wt, ih fun i hi => h i (by omega), h m (by omega)]
theorem cnt_sub {m : Nat} {X Y : Nat → Bool} (h : ∀ i, i < m → Y i = true → X i = true) : cnt m X = cnt m Y + cnt m (bx X Y) := by
  induction m with
  | zero => rfl
  | succ m ih =>
    have := h m (by omega)
    rw [cnt, cnt, cnt, ih fun i hi => h i (by omega), show bx X Y m = (X m ^^ Y m) from rfl]
    cases hX : X m <;> cases hY : Y m <;> simp_all <;> omega
theorem wt_sub {m : Nat} {J X Y : Nat → Bool} (h : ∀ i, i < m → Y i = true → X i = true) : wt m J X = wt m J Y + wt m J (bx X Y) := by
  induction m with
  | zero => rfl
  | succ m ih =>
    have := h m (by omega)
    rw [wt, wt, wt, ih fun i hi => h i (by omega), show bx X Y m = (X m ^^ Y m) from rfl]
    cases hX : X m <;> cases hY : Y m <;> simp_all <;> omega
theorem wt_dis {m : Nat} {J X Y : Nat → Bool} (h : ∀ i, i < m → X i = true → Y i = false) : wt m J (bx X Y) = wt m J X + wt m J Y := by
  induction m with
  | zero => rfl
  | succ m ih =>
    have := h m (by omega)
    rw [wt, wt, wt, ih fun i hi => h i (by omega), show bx X Y m = (X m ^^ Y m) from rfl]
    cases hX : X m <;> cases hY : Y m <;> simp_all <;> omega
theorem wt_par (m : Nat) (J X : Nat → Bool) : (wt m J X + cnt m X) % 2 = 0 := by
  induction m with
  | zero => rfl
  | succ m ih =>
    rw [wt, cnt]
    cases X m <;> cases J m <;> simp <;> omega
theorem cnt_join (m : Nat) (J X : Nat → Bool) : (cnt m (bx J X) : Int) = cnt m J + wt m J X := by
  induction m with
  | zero => rfl
  | succ m ih =>
    rw [wt, cnt, cnt, show bx J X m = (J m ^^ X m) from rfl]
    cases X m <;> cases J m <;> simp <;> omega
theorem wt_flip {m i : Nat} (J X : Nat → Bool) (hi : i < m) : wt m J (bx X (one i)) = wt m J X + if X i = J i then 1 else -1 := by
  induction m with
  | zero => omega
  | succ m ih =>
    rw [wt, wt]
    by_cases e : i = m
    · subst e
      have : wt i J (bx X (one i)) = wt i J X := wt_congr fun j hj => by
        show (X j ^^ (j == i)) = X j
        rw [show (j == i) = false by rw [beq_eq_false_iff_ne]; omega]; simp
      rw [this, show bx X (one i) i = !X i by show (X i ^^ (i == i)) = !X i; simp]
      cases X i <;> cases J i <;> simp <;> omega
    · rw [ih (by omega), show bx X (one i) m = X m by show (X m ^^ (m == i)) = X m; rw [show (m == i) = false by rw [beq_eq_false_iff_ne]; omega]; simp]
      omega
theorem cnt_flip {m i : Nat} (X : Nat → Bool) (hi : i < m) : (cnt m (bx X (one i)) : Int) = cnt m X + if X i = true then -1 else 1 := by
  induction m with
  | zero => omega
  | succ m ih =>
    rw [cnt, cnt]
    by_cases e : i = m
    · subst e
      have : cnt i (bx X (one i)) = cnt i X := cnt_congr fun j hj => by
        show (X j ^^ (j == i)) = X j
        rw [show (j == i) = false by rw [beq_eq_false_iff_ne]; omega]; simp
      rw [this, show bx X (one i) i = !X i by show (X i ^^ (i == i)) = !X i; simp]
      cases X i <;> simp <;> omega
    · rw [show bx X (one i) m = X m by show (X m ^^ (m == i)) = X m; rw [show (m == i) = false by rw [beq_eq_false_iff_ne]; omega]; simp]
      have := ih (by omega)
      split <;> omega
theorem cnt_pos {m i : Nat} {X : Nat → Bool} (hi : i < m) (h : X i = true) : 0 < cnt m X := by
  have := cnt_flip X hi
  rw [if_pos h] at this
  omega
theorem cnt_xl (m : Nat) (X : Nat → Bool) : xl (List.range m) X = decide (cnt m X % 2 = 1) := by
  induction m with
  | zero => rfl
  | succ m ih =>
    rw [List.range_succ, xl_append, ih, xl_cons, xl_nil, cnt]
    cases X m
    · simp
    · simp only [if_true, Bool.xor_false, Bool.xor_true]
      rw [Bool.eq_iff_iff]; simp; omega
theorem wt_mono {m : Nat} {J J' X Y : Nat → Bool} (h : ∀ i, i < m → (Y i = true → X i = true ∧ J' i = J i) ∧ (X i = true → Y i = false → J i = false)) : wt m J' Y ≤ wt m J X := by
  induction m with
  | zero => simp [wt]
  | succ m ih =>
    have h1 := ih fun i hi => h i (by omega)
    obtain ⟨h2, h3⟩ := h m (by omega)
    rw [wt, wt]
    cases hX : X m <;> cases hY : Y m <;> simp_all <;> (try split) <;> omega

/-! ### ends of sets of streets -/
def Bd (n : Nat) (L : G) : Prop := ∀ e ∈ L, e.a < n ∧ e.b < n
theorem Bd.get {n : Nat} {L : G} (h : Bd n L) {i : Nat} (hi : i < L.length) : (st L i).a < n ∧ (st L i).b < n := by
  unfold st
  rw [List.getD_eq_getElem?_getD, List.getElem?_eq_getElem hi]
  exact h _ (List.getElem_mem hi)
abbrev bd (L : G) (X : Nat → Bool) (v : Nat) : Bool := xs L X (pt v)
theorem bd_bx (L : G) (X Y : Nat → Bool) (v : Nat) : bd L (bx X Y) v = (bd L X v ^^ bd L Y v) := xs_xorJ L X Y (pt v)
theorem bd_one {L : G} {i : Nat} (hi : i < L.length) (v : Nat) : bd L (one i) v = (((st L i).a == v) ^^ ((st L i).b == v)) := xs_single hi (pt v)
theorem bd_sum {n : Nat} {L : G} (hb : Bd n L) (X S : Nat → Bool) : xs L X S = xl (List.range n) (fun v => S v && bd L X v) := by
  unfold bd xs
  have e : xl (List.range L.length) (fun i => X i && cross (L.getD i default) S) = xl (List.range L.length) (fun i => xl (List.range n) (fun v => X i && (S v && cross (L.getD i default) (pt v)))) := xl_congr fun i hi => by
    have := hb.get (List.mem_range.1 hi)
    rw [cross_sum (n := n) this.1 this.2 S, ← xl_and]
  rw [e, xl_swap]
  apply xl_congr
  intro v _
  rw [← xl_and]
  apply xl_congr
  intro i _
  cases S v <;> cases X i <;> rfl
theorem xs_closed {L : G} {X S : Nat → Bool} (hc : Closed L X S) : xs L X S = false := by
  unfold xs
  rw [← xl_false (List.range L.length)]
  apply xl_congr
  intro i hi
  cases hx : X i with
  | false => rfl
  | true =>
    have := hc i (List.mem_range.1 hi) hx
    unfold cross
    rw [this]; simp
/-- the set's ends are s and t -/
def Ends (n : Nat) (L : G) (X : Nat → Bool) (s t : Nat) : Prop := (s < n ∧ t < n) ∧ ∀ v, bd L X v = ((v == s) ^^ (v == t))
theorem ends_closed {n : Nat} {L : G} (hb : Bd n L) {X S : Nat → Bool} {s t : Nat} (h : Ends n L X s t) (hc : Closed L X S) : S s = S t := by
  have h1 := bd_sum hb X S
  rw [xs_closed hc] at h1
  have e : xl (List.range n) (fun v => S v && bd L X v) = xl (List.range n) (fun v => (S v && (s == v)) ^^ (S v && (t == v))) := xl_congr fun v _ => by
    rw [h.2 v, show (v == s) = (s == v) from Bool.beq_comm, show (v == t) = (t == v) from Bool.beq_comm]
    exact bx_r _ _ _
  rw [e, xl_xor, xl_range_pt h.1.1, xl_range_pt h.1.2] at h1
  revert h1
  cases S s <;> cases S t <;> simp
/-- what can be reached -/
noncomputable def reach (L : G) (X : Nat → Bool) (u : Nat) : Nat → Bool := fun v => open Classical in decide (Rch L X u v)
theorem reach_iff {L : G} {X : Nat → Bool} {u v : Nat} : reach L X u v = true ↔ Rch L X u v := by unfold reach; simp
theorem reach_self (L : G) (X : Nat → Bool) (u : Nat) : reach L X u u = true := reach_iff.2 fun _ _ h => h
theorem reach_closed (L : G) (X : Nat → Bool) (u : Nat) : Closed L X (reach L X u) := by
  intro i hi hx
  rw [Bool.eq_iff_iff, reach_iff, reach_iff]
  exact ⟨fun h S hc hS => by rw [← hc i hi hx]; exact h S hc hS, fun h S hc hS => by rw [hc i hi hx]; exact h S hc hS⟩
theorem path {L : G} {X : Nat → Bool} {u v : Nat} (h : Rch L X u v) : ∃ P : Nat → Bool, (∀ i, P i = true → X i = true) ∧ ∀ y, bd L P y = ((y == u) ^^ (y == v)) := by
  classical
  have := h (fun v => decide (∃ P : Nat → Bool, (∀ i, P i = true → X i = true) ∧ ∀ y, bd L P y = ((y == u) ^^ (y == v)))) (fun i hi hx => by
    have step : ∀ P : Nat → Bool, (∀ i, P i = true → X i = true) → ∀ j, bx P (one i) j = true → X j = true := fun P hP j hj => by
      by_cases e : j = i
      · rw [e]; exact hx
      · refine hP j ?_
        have : (P j ^^ (j == i)) = true := hj
        rw [show (j == i) = false by simpa using e, Bool.xor_false] at this
        exact this
    rw [Bool.eq_iff_iff, decide_eq_true_eq, decide_eq_true_eq]
    constructor
    · rintro ⟨P, h1, h2⟩
      refine ⟨bx P (one i), step P h1, fun y => ?_⟩
      rw [bd_bx, h2 y, bd_one hi, show ((st L i).a == y) = (y == (st L i).a) from Bool.beq_comm, show ((st L i).b == y) = (y == (st L i).b) from Bool.beq_comm]
      cases (y == u) <;> cases (y == (st L i).a) <;> cases (y == (st L i).b) <;> rfl
    · rintro ⟨P, h1, h2⟩
      refine ⟨bx P (one i), step P h1, fun y => ?_⟩
      rw [bd_bx, h2 y, bd_one hi, show ((st L i).a == y) = (y == (st L i).a) from Bool.beq_comm, show ((st L i).b == y) = (y == (st L i).b) from Bool.beq_comm]
      cases (y == u) <;> cases (y == (st L i).a) <;> cases (y == (st L i).b) <;> rfl) (by
    rw [decide_eq_true_eq]
    exact ⟨fun _ => false, fun i h => (by cases h), fun y => by rw [Bool.xor_self]; unfold bd xs; simp [xl_false]⟩)
  simpa using this
/-- the part of a set within a side that no street of it leaves -/
def part (L : G) (X S : Nat → Bool) : Nat → Bool := fun i => X i && S (st L i).a
theorem bd_part {L : G} {X S : Nat → Bool} (hc : Closed L X S) (v : Nat) : bd L (part L X S) v = (S v && bd L X v) := by
  unfold bd xs
  rw [← xl_and]
  apply xl_congr
  intro i hi
  have hi := List.mem_range.1 hi
  show (X i && S (st L i).a && cross (st L i) (pt v)) = (S v && (X i && cross (st L i) (pt v)))
  cases hx : X i with
  | false => simp
  | true =>
    have h := hc i hi hx
    unfold cross pt
    by_cases h1 : (st L i).a = v
    · rw [h1]; simp
    · by_cases h2 : (st L i).b = v
      · have h : S (st L i).a = S (st L i).b := h
        rw [h, h2]; simp
      · rw [show ((st L i).a == v) = false by simpa using h1, show ((st L i).b == v) = false by simpa using h2]; simp
theorem bd_ex {L : G} {X : Nat → Bool} {v : Nat} (h : bd L X v = true) : ∃ i, i < L.length ∧ X i = true ∧ cross (st L i) (pt v) = true := by
  obtain ⟨i, hi, hx⟩ := xl_ex h
  rw [Bool.and_eq_true] at hx
  exact ⟨i, List.mem_range.1 hi, hx.1, hx.2⟩
/-- the street's other end -/
theorem far {n : Nat} {L : G} (hb : Bd n L) {i s : Nat} (hi : i < L.length) (h : cross (st L i) (pt s) = true) : ∃ z, z < n ∧ z ≠ s ∧ (∀ v, bd L (one i) v = ((v == s) ^^ (v == z))) ∧ ((st L i).a = s ∧ (st L i).b = z ∨ (st L i).a = z ∧ (st L i).b = s) := by
  have hg := hb.get hi
  unfold cross pt at h
  by_cases h1 : (st L i).a = s
  · have h2 : (st L i).b ≠ s := by intro e; rw [h1, e] at h; simp at h
    refine ⟨(st L i).b, hg.2, h2, fun v => ?_, .inl ⟨h1, rfl⟩⟩
    rw [bd_one hi, h1, show (s == v) = (v == s) from Bool.beq_comm, show ((st L i).b == v) = (v == (st L i).b) from Bool.beq_comm]
  · have h2 : (st L i).b = s := Classical.byContradiction fun e => by
      rw [show ((st L i).a == s) = false by simpa using h1, show ((st L i).b == s) = false by simpa using e] at h; simp at h
    refine ⟨(st L i).a, hg.1, h1, fun v => ?_, .inr ⟨rfl, h2⟩⟩
    rw [bd_one hi, h2, show (s == v) = (v == s) from Bool.beq_comm, show ((st L i).a == v) = (v == (st L i).a) from Bool.beq_comm]
    exact Bool.xor_comm _ _
theorem exists_min {α : Type} (p : α → Prop) (μ : α → Nat) (h : ∃ x, p x) : ∃ x, p x ∧ ∀ y, p y → μ x ≤ μ y := by
  obtain ⟨x, hx⟩ := h
  induction hk : μ x using Nat.strongRecOn generalizing x with
  | _ k ih =>
    by_cases hy : ∃ y, p y ∧ μ y < μ x
    · obtain ⟨y, h1, h2⟩ := hy
      exact ih (μ y) (by omega) y h1 rfl
    · refine ⟨x, hx, fun y h1 => ?_⟩
      rcases Nat.lt_or_ge (μ y) (μ x) with h2 | h2
      · exact absurd ⟨y, h1, h2⟩ hy
      · exact h2
end R2

namespace R2

/-- the first streets lead each corner to a smaller one -/
structure Tree (n : Nat) (L : G) : Prop where
  val : Val n L
  len : n ≤ L.length + 1
  top : ∀ i, i + 1 < n → (st L i).b = i + 1

theorem flip_bd {L : G} {i : Nat} (hi : i < L.length) (X : Nat → Bool) (v : Nat) : bd L (bx X (one i)) v = (bd L X v ^^ cross (st L i) (pt v)) := by
  rw [bd_bx, bd_one hi]; rfl
theorem Tree.lt {n : Nat} {L : G} (h : Tree n L) {i : Nat} (hi : i + 1 < n) : i < L.length ∧ (st L i).a < i + 1 := by
  have hl := h.len
  have h1 : i < L.length := by omega
  have := h.val.get h1
  have e := h.top i hi
  have this : (st L i).a < (st L i).b ∧ (st L i).b < n := this
  exact ⟨h1, by omega⟩
theorem Tree.top_cross {n : Nat} {L : G} (h : Tree n L) {i : Nat} (hi : i + 1 < n) : cross (st L i) (pt (i + 1)) = true := by
  have h2 := (h.lt hi).2
  have e := h.top i hi
  unfold cross pt
  rw [e, beq_self_eq_true, beq_false_of_ne (show (st L i).a ≠ i + 1 by omega)]; rfl
theorem Tree.top_far {n : Nat} {L : G} (h : Tree n L) {i v : Nat} (hi : i + 1 < n) (hv : i + 1 < v) : cross (st L i) (pt v) = false := by
  have h2 := (h.lt hi).2
  have e := h.top i hi
  unfold cross pt
  rw [e, beq_false_of_ne (show i + 1 ≠ v by omega), beq_false_of_ne (show (st L i).a ≠ v by omega)]; rfl

/-- the streets of the tree, from the last one on, put right -/
def fixJ (L : G) (g : Nat → Bool) : Nat → (Nat → Bool) → Nat → Bool
  | 0, X => X
  | c + 1, X => fixJ L g c (if bd L X (c + 1) = g (c + 1) then X else bx X (one c))
theorem fixJ_spec {n : Nat} {L : G} (h : Tree n L) (g : Nat → Bool) : ∀ (c : Nat) (X : Nat → Bool), c + 1 ≤ n → (∀ i, c ≤ i → fixJ L g c X i = X i) ∧ (∀ v, 1 ≤ v → v ≤ c → bd L (fixJ L g c X) v = g v) ∧ ∀ v, c < v → bd L (fixJ L g c X) v = bd L X v
  | 0, X, _ => ⟨fun _ _ => rfl, fun v h1 h2 => by omega, fun _ _ => rfl⟩
  | c + 1, X, hc => by
    have hlt := h.lt (show c + 1 < n by omega)
    have key : ∃ Y, Y = (if bd L X (c + 1) = g (c + 1) then X else bx X (one c)) ∧ (∀ i, c + 1 ≤ i → Y i = X i) ∧ bd L Y (c + 1) = g (c + 1) ∧ ∀ v, c + 1 < v → bd L Y v = bd L X v := by
      by_cases hb : bd L X (c + 1) = g (c + 1)
      · rw [if_pos hb]; exact ⟨X, rfl, fun _ _ => rfl, hb, fun _ _ => rfl⟩
      · rw [if_neg hb]
        refine ⟨_, rfl, fun i hi => ?_, ?_, fun v hv => ?_⟩
        · show (X i ^^ (i == c)) = X i
          rw [beq_false_of_ne (by omega), Bool.xor_false]
        · rw [flip_bd hlt.1, h.top_cross (show c + 1 < n by omega)]
          revert hb; cases bd L X (c + 1) <;> cases g (c + 1) <;> simp
        · rw [flip_bd hlt.1, h.top_far (show c + 1 < n by omega) hv, Bool.xor_false]
    obtain ⟨Y, hY, y1, y2, y3⟩ := key
    obtain ⟨r1, r2, r3⟩ := fixJ_spec h g c Y (by omega)
    have e : fixJ L g (c + 1) X = fixJ L g c Y := by rw [fixJ, ← hY]
    rw [e]
    refine ⟨fun i hi => by rw [r1 i (by omega), y1 i hi], fun v h1 h2 => ?_, fun v hv => by rw [r3 v (by omega), y3 v hv]⟩
    by_cases hv : v = c + 1
    · subst hv; rw [r3 _ (by omega), y2]
    · exact r2 v h1 (by omega)
/-- what holds at all corners but the first holds at it, too -/
theorem zero_too {n : Nat} {L : G} (hv : Val n L) {X Y : Nat → Bool} (h : ∀ v, 1 ≤ v → v < n → bd L X v = bd L Y v) : ∀ v, v < n → bd L X v = bd L Y v := by
  intro v hvn
  cases v with
  | succ v => exact h _ (by omega) hvn
  | zero =>
    have h1 := xs_odd hv X
    have h2 := xs_odd hv Y
    obtain ⟨k, rfl⟩ : ∃ k, n = k + 1 := ⟨n - 1, by omega⟩
    rw [List.range_succ_eq_map, xl_cons, xl_map] at h1 h2
    have e : xl (List.range k) (fun x => xs L X (pt (x + 1))) = xl (List.range k) (fun x => xs L Y (pt (x + 1))) := xl_congr fun x hx => h _ (by omega) (by have := List.mem_range.1 hx; omega)
    have h1 : (bd L X 0 ^^ xl (List.range k) (fun x => xs L X (pt (x + 1)))) = false := h1
    have h2 : (bd L Y 0 ^^ xl (List.range k) (fun x => xs L Y (pt (x + 1)))) = false := h2
    rw [e] at h1
    revert h1 h2
    cases bd L X 0 <;> cases bd L Y 0 <;> cases xl (List.range k) (fun x => xs L Y (pt (x + 1))) <;> simp
/-- a ring in the tree has no street -/
theorem Tree.no_ring {n : Nat} {L : G} (h : Tree n L) {D : Nat → Bool} (h0 : ∀ v, v < n → bd L D v = false) (hbig : ∀ i, n - 1 ≤ i → D i = false) : ∀ i, D i = false := by
  have key : ∀ k c, c + k = n - 1 → ∀ i, c ≤ i → D i = false := by
    intro k
    induction k with
    | zero => intro c hc i hi; exact hbig i (by omega)
    | succ k ih =>
      intro c hc i hi
      by_cases hic : c + 1 ≤ i
      · exact ih (c + 1) (by omega) i hic
      · obtain rfl : i = c := by omega
        have hn : i + 1 < n := by omega
        have hlt := h.lt hn
        cases hd : D i with
        | false => rfl
        | true =>
          exfalso
          have e1 : bd L (bx D (one i)) (i + 1) = false := by
            show xl _ _ = false
            rw [← xl_false (List.range L.length)]
            refine xl_congr fun j hj => ?_
            have hjl := List.mem_range.1 hj
            show ((D j ^^ (j == i)) && cross (st L j) (pt (i + 1))) = false
            by_cases hji : j = i
            · subst hji; rw [hd, beq_self_eq_true]; rfl
            · rw [beq_false_of_ne hji, Bool.xor_false]
              by_cases hji2 : j < i
              · rw [h.top_far (show j + 1 < n by omega) (show j + 1 < i + 1 by omega), Bool.and_false]
              · rw [ih (i + 1) (by omega) j (by omega), Bool.false_and]
          rw [flip_bd hlt.1, h0 _ hn, h.top_cross hn] at e1
          cases e1
  intro i
  exact key (n - 1) 0 (by omega) i (Nat.zero_le _)

/-- a set of streets as a number -/
def setM (L : G) (X : Nat → Bool) : Nat := maskOf ((List.range L.length).filter X)
theorem setM_bit (L : G) (X : Nat → Bool) (i : Nat) : (setM L X).testBit i = (decide (i < L.length) && X i) := by
  rw [Bool.eq_iff_iff, setM, maskOf_bit, List.mem_filter, List.mem_range, Bool.and_eq_true, decide_eq_true_eq]
theorem setM_lt (L : G) (X : Nat → Bool) : setM L X < 2 ^ L.length := maskOf_lt fun x hx => List.mem_range.1 (List.mem_filter.1 hx).1
theorem setM_bd (L : G) (X : Nat → Bool) (v : Nat) : bd L (setM L X).testBit v = bd L X v := xs_congrJ (fun i hi => by rw [setM_bit, decide_eq_true hi, Bool.true_and]) _

/-- how many sets are enough -/
theorem cnt_tree {n : Nat} {L : G} (h : Tree n L) (h1 : 1 ≤ n) (hl : L.length ≤ 9) : cntM L = 2 ^ (L.length + 1 - n) := by
  have hlen := h.len
  have hm : ∀ m, m < 2 ^ L.length → (okJ L m = true ↔ ∀ v, v < n → bd L m.testBit v = bd L all1 v) := fun m hm => okJ_iff h.val hl hm
  obtain ⟨d, hd⟩ : ∃ d, L.length = (n - 1) + d := ⟨L.length - (n - 1), by omega⟩
  have hpow : 2 ^ L.length = 2 ^ (n - 1) * 2 ^ d := by rw [hd, Nat.pow_add]
  have hp1 := Nat.two_pow_pos (n - 1)
  have hperm : (((List.range (2 ^ L.length)).filter (okJ L)).map (· / 2 ^ (n - 1))).Perm (List.range (2 ^ d)) := by
    refine (List.perm_ext_iff_of_nodup ?_ List.nodup_range).2 fun k => ?_
    · refine List.pairwise_map.2 (List.Pairwise.imp_of_mem (fun {a b} ha hb hne e => hne ?_) (List.Nodup.sublist List.filter_sublist List.nodup_range))
      obtain ⟨ha1, ha2⟩ := List.mem_filter.1 ha
      obtain ⟨hb1, hb2⟩ := List.mem_filter.1 hb
      have ha3 := List.mem_range.1 ha1
      have hb3 := List.mem_range.1 hb1
      have ja := (hm a ha3).1 ha2
      have jb := (hm b hb3).1 hb2
      have hD := h.no_ring (D := bx a.testBit b.testBit) (fun v hv => by rw [bd_bx, ja v hv, jb v hv, Bool.xor_self]) (fun i hi => by
        have e2 := congrArg (fun x => x.testBit (i - (n - 1))) e
        simp only [Nat.testBit_div_two_pow] at e2
        rw [show i - (n - 1) + (n - 1) = i by omega] at e2
        show (a.testBit i ^^ b.testBit i) = false
        rw [e2, Bool.xor_self])
      refine Nat.eq_of_testBit_eq fun i => ?_
      have : (a.testBit i ^^ b.testBit i) = false := hD i
      revert this; cases a.testBit i <;> cases b.testBit i <;> simp
    · rw [List.mem_map, List.mem_range]
      constructor
      · rintro ⟨m, hm2, rfl⟩
        have := List.mem_range.1 (List.mem_filter.1 hm2).1
        rw [Nat.div_lt_iff_lt_mul hp1, Nat.mul_comm, ← hpow]; exact this
      · intro hk
        obtain ⟨f1, f2, f3⟩ := fixJ_spec h (bd L all1) (n - 1) (fun i => (k * 2 ^ (n - 1)).testBit i) (by omega)
        generalize hF : fixJ L (bd L all1) (n - 1) (fun i => (k * 2 ^ (n - 1)).testBit i) = F at *
        refine ⟨setM L F, List.mem_filter.2 ⟨List.mem_range.2 (setM_lt L F), (hm _ (setM_lt L F)).2 (zero_too h.val fun v h1 h2 => ?_)⟩, ?_⟩
        · rw [setM_bd]; exact f2 v h1 (by omega)
        · refine Nat.eq_of_testBit_eq fun i => ?_
          rw [Nat.testBit_div_two_pow, setM_bit, f1 _ (by omega)]
          have e : (k * 2 ^ (n - 1)).testBit (i + (n - 1)) = k.testBit i := by
            rw [Nat.mul_comm, Nat.testBit_two_pow_mul]; simp
          rw [e]
          by_cases hi : i + (n - 1) < L.length
          · rw [decide_eq_true hi, Bool.true_and]
          · rw [decide_eq_false hi, Bool.false_and]
            refine (Nat.testBit_lt_two_pow (Nat.lt_of_lt_of_le hk (Nat.pow_le_pow_right (by decide) (by omega)))).symm
  have := hperm.length_eq
  rw [List.length_map, List.length_range] at this
  rw [cntM, this, show L.length + 1 - n = d by omega]

/-! ### the fewest streets make no ring -/
/-- corners that are joined have one label -/
def relab (lab : List Nat) (a b : Nat) : List Nat := lab.map fun x => if x = a then b else x
def lb (lab : List Nat) (v : Nat) : Nat := lab.getD v 0
def labK (L : G) (l : List Nat) (k : Nat) : List Nat := (l.take k).foldl (fun lab i => relab lab (lb lab (st L i).a) (lb lab (st L i).b)) [0, 1, 2, 3, 4, 5]
theorem labK_succ {L : G} {l : List Nat} {k i : Nat} (h : l[k]? = some i) : labK L l (k + 1) = relab (labK L l k) (lb (labK L l k) (st L i).a) (lb (labK L l k) (st L i).b) := by
  unfold labK
  rw [List.take_add_one, h, Option.toList_some, List.foldl_append]; rfl
theorem labK_length (L : G) (l : List Nat) : ∀ k, (labK L l k).length = 6 := fun k => by
  unfold labK
  have : ∀ (w : List Nat) (lab : List Nat), lab.length = 6 → (w.foldl (fun lab i => relab lab (lb lab (st L i).a) (lb lab (st L i).b)) lab).length = 6 := by
    intro w
    induction w with
    | nil => intro lab h; exact h
    | cons i w ih => intro lab h; exact ih _ (by unfold relab; rw [List.length_map]; exact h)
  exact this _ _ rfl
theorem lb_relab {lab : List Nat} {a b v : Nat} (hv : v < lab.length) : lb (relab lab a b) v = if lb lab v = a then b else lb lab v := by
  unfold lb relab
  rw [List.getD_eq_getElem?_getD, List.getD_eq_getElem?_getD, List.getElem?_map, List.getElem?_eq_getElem hv]; rfl
theorem Rch.symm {L : G} {p : Nat → Bool} {u v : Nat} (h : Rch L p u v) : Rch L p v u := fun S hc hS => by
  have := h (fun x => !S x) (fun i hi hp => by simp only; rw [hc i hi hp])
  cases hu : S u with
  | true => rfl
  | false => rw [hu, hS] at this; exact absurd (this rfl) (by decide)
theorem Rch.trans {L : G} {p : Nat → Bool} {u v w : Nat} (h : Rch L p u v) (k : Rch L p v w) : Rch L p u w := fun S hc hS => k S hc (h S hc hS)
theorem Rch.mono {L : G} {p q : Nat → Bool} {u v : Nat} (h : Rch L p u v) (hs : ∀ i, p i = true → q i = true) : Rch L q u v := fun S hc hS => h S (fun i hi hp => hc i hi (hs i hp)) hS
theorem lab_reach {n : Nat} {L : G} (hv : Val n L) (h6 : n ≤ 6) {l : List Nat} (hl : ∀ i ∈ l, i < L.length) : ∀ k, k ≤ l.length → ∀ u v, u < 6 → v < 6 → lb (labK L l k) u = lb (labK L l k) v → Rch L (fun i => decide (i ∈ l.take k)) u v
  | 0, _, u, v, hu, hv, h => by
    have e : ∀ x, x < 6 → lb (labK L l 0) x = x := by intro x hx; unfold labK lb; match x, hx with | 0, _ => rfl | 1, _ => rfl | 2, _ => rfl | 3, _ => rfl | 4, _ => rfl | 5, _ => rfl
    rw [e u hu, e v hv] at h
    subst h
    exact fun S _ h => h
  | k + 1, hk, u, v, hu, hv', h => by
    have ih := lab_reach hv h6 hl k (by omega)
    obtain ⟨i, hi⟩ : ∃ i, l[k]? = some i := ⟨l[k], by simp [show k < l.length by omega]⟩
    have him := hl i (List.mem_of_getElem? hi)
    obtain ⟨hab, hbn⟩ := hv.get him
    have hab : (st L i).a < (st L i).b := hab
    have hbn : (st L i).b < n := hbn
    have hlen := labK_length L l k
    rw [labK_succ hi, lb_relab (by omega), lb_relab (by omega)] at h
    have hmono : ∀ {x y}, Rch L (fun i => decide (i ∈ l.take k)) x y → Rch L (fun i => decide (i ∈ l.take (k + 1))) x y := fun h => h.mono fun j hj => by
      rw [decide_eq_true_eq] at hj ⊢
      rw [List.take_add_one]; exact List.mem_append_left _ hj
    have hstep : Rch L (fun i => decide (i ∈ l.take (k + 1))) (st L i).a (st L i).b := fun S hc hS => by
      have := hc i him (by rw [decide_eq_true_eq, List.take_add_one, hi]; simp)
      rw [← hS]; exact this.symm
    by_cases hua : lb (labK L l k) u = lb (labK L l k) (st L i).a
    · rw [if_pos hua] at h
      have h1 := hmono (ih u _ hu (by omega) hua)
      by_cases hva : lb (labK L l k) v = lb (labK L l k) (st L i).a
      · exact h1.trans (hmono (ih v _ hv' (by omega) hva)).symm
      · rw [if_neg hva] at h
        exact (h1.trans hstep).trans (hmono (ih _ v (by omega) hv' h))
    · rw [if_neg hua] at h
      by_cases hva : lb (labK L l k) v = lb (labK L l k) (st L i).a
      · rw [if_pos hva] at h
        exact (hmono (ih u _ hu (by omega) h)).trans (hstep.symm.trans (hmono (ih v _ hv' (by omega) hva)).symm)
      · rw [if_neg hva] at h
        exact hmono (ih u v hu hv' h)
theorem few_mem {n : Nat} {L : G} (ok : Ok n L) : ∃ m, m < 2 ^ L.length ∧ okJ L m = true ∧ fewM L = ones m := (fewM_best L).mem
theorem few_no_ring {n : Nat} {L : G} (ok : Ok n L) {k i : Nat} (hi : (fewM L)[k]? = some i) : i < L.length ∧ lb (labK L (fewM L) k) (st L i).a ≠ lb (labK L (fewM L) k) (st L i).b := by
  have h9 := ok.len
  obtain ⟨m, hm, hJ, hf⟩ := few_mem ok
  have hlt : ∀ x ∈ fewM L, x < L.length := fun x hx => ones_lt hm x (hf ▸ hx)
  have him := hlt i (List.mem_of_getElem? hi)
  refine ⟨him, fun h => ?_⟩
  have hkl := (List.getElem?_eq_some_iff.1 hi).1
  obtain ⟨hab, hbn⟩ := ok.val.get him
  have hab : (st L i).a < (st L i).b := hab
  have hbn : (st L i).b < n := hbn
  have h6 := ok.n6
  obtain ⟨P, hP, hbd⟩ := path (lab_reach ok.val h6 hlt k (by omega) _ _ (by omega) (by omega) h)
  have hnd : (fewM L).Nodup := by rw [hf]; exact (ones_asc m).imp (fun h => Nat.ne_of_lt h)
  have hik : i ∉ (fewM L).take k := fun hin => by
    obtain ⟨j, hj, e⟩ := List.getElem_of_mem hin
    rw [List.length_take] at hj
    rw [List.getElem_take] at e
    have e2 : (fewM L)[k] = i := (List.getElem?_eq_some_iff.1 hi).2
    have := List.pairwise_iff_getElem.1 hnd j k (by omega) hkl (by omega)
    exact this (e.trans e2.symm)
  have hPi : P i = false := by
    cases hp : P i with
    | false => rfl
    | true => exact absurd (of_decide_eq_true (hP i hp)) hik
  have hmi : ∀ x ∈ fewM L, m.testBit x = true := fun x hx => (mem_ones.1 (hf ▸ hx)).2
  have hX : ∀ j, bx P (one i) j = true → m.testBit j = true := fun j hj => by
    by_cases hji : j = i
    · subst hji; exact hmi _ (List.mem_of_getElem? hi)
    · have hj : (P j ^^ (j == i)) = true := hj
      rw [beq_false_of_ne hji, Bool.xor_false] at hj
      exact hmi _ (List.mem_of_mem_take (of_decide_eq_true (hP j hj)))
  have hXb : ∀ v, bd L (bx P (one i)) v = false := fun v => by
    rw [bd_bx, hbd, bd_one him, Bool.beq_comm (a := v), Bool.beq_comm (a := v), Bool.xor_self]
  let m' := setM L (bx m.testBit (bx P (one i)))
  have hm' : m' < 2 ^ L.length := setM_lt _ _
  have hj1 : okJ L m' = true := (okJ_iff ok.val h9 hm').2 fun v hv => by
    have e1 : bd L m'.testBit v = bd L m.testBit v := by
      show bd L (setM L _).testBit v = _
      rw [setM_bd, bd_bx, hXb, Bool.xor_false]
    exact e1.trans ((okJ_iff ok.val h9 hm).1 hJ v hv)
  have hsub : sub m' m = true := sub_iff.2 fun j hj => by
    have hj : (setM L (bx m.testBit (bx P (one i)))).testBit j = true := hj
    rw [setM_bit, Bool.and_eq_true] at hj
    have h2 : (m.testBit j ^^ bx P (one i) j) = true := hj.2
    cases hx : m.testBit j with
    | true => rfl
    | false =>
      rw [hx, Bool.false_xor] at h2
      rw [hX j h2] at hx; cases hx
  have hbit : m'.testBit i = false := by
    show (setM L _).testBit i = false
    rw [setM_bit]
    have : bx m.testBit (bx P (one i)) i = false := by
      show (m.testBit i ^^ (P i ^^ (i == i))) = false
      rw [hPi, beq_self_eq_true, hmi i (List.mem_of_getElem? hi)]; rfl
    rw [this, Bool.and_false]
  have hlt2 := ones_len_lt (show i < 9 by omega) hsub hbit (hmi i (List.mem_of_getElem? hi))
  have hbest := (fewM_best L).le (ones m') ⟨m', hm', hj1, rfl⟩
  have : better (ones m') (some (fewM L)) = true := better_iff.2 (.inl (by rw [hf]; exact hlt2))
  rw [this] at hbest; cases hbest
end R2

namespace R2

def townN (A : List Nat) (cs : Nat) : Nat := 1 + A.getD 0 0 % cs
def upT (A : List Nat) (c : Nat) : Nat := A.getD (3 + c) 0 % c
/-- how far the corners are, as far as they have been done -/
def depT (A : List Nat) (n : Nat) : Nat → List Nat
  | 0 => List.replicate n 0
  | c + 1 => (depT A n c).set (c + 1) ((depT A n c).getD (upT A (c + 1)) 0 + 1)
theorem depT_length (A : List Nat) (n : Nat) : ∀ c, (depT A n c).length = n
  | 0 => by simp [depT]
  | c + 1 => by rw [depT, List.length_set, depT_length A n c]
theorem depT_le (A : List Nat) (n : Nat) : ∀ c i, (depT A n c).getD i 0 ≤ c
  | 0, i => by
    rw [depT, List.getD_eq_getElem?_getD]
    cases h : (List.replicate n 0)[i]? with
    | none => exact Nat.le_refl _
    | some x => have := List.mem_of_getElem? h; rw [List.mem_replicate] at this; simp [this.2]
  | c + 1, i => by
    rw [depT]
    have h1 := depT_le A n c i
    have h2 := depT_le A n c (upT A (c + 1))
    generalize depT A n c = D at *
    by_cases hi : i = c + 1
    · subst hi
      by_cases hl : c + 1 < D.length
      · rw [List.getD_eq_getElem?_getD, List.getElem?_set_self hl]; simp only [Option.getD_some]; omega
      · rw [List.getD_eq_getElem?_getD, List.getElem?_eq_none (by rw [List.length_set]; omega)]; simp
    · rw [List.getD_eq_getElem?_getD, List.getElem?_set_ne (by omega), ← List.getD_eq_getElem?_getD]; omega
def treeT (A : List Nat) (k : Nat) : G := (List.range k).map fun i => ⟨upT A (i + 1), i + 1⟩
theorem treeT_succ (A : List Nat) (k : Nat) : treeT A (k + 1) = treeT A k ++ [⟨upT A (k + 1), k + 1⟩] := by unfold treeT; rw [List.range_succ, List.map_append]; rfl
theorem treeT_length (A : List Nat) (k : Nat) : (treeT A k).length = k := by simp [treeT]
def addT (n most ev : Nat) (D : List Nat) (L : G) (x y : Nat) : G :=
  if x % n = y % n ∨ most ≤ L.length ∨ (ev % 2 = 1 ∧ (D.getD (x % n) 0 + D.getD (y % n) 0) % 2 = 0) then L else L ++ [⟨min (x % n) (y % n), max (x % n) (y % n)⟩]
def moreT (A : List Nat) (n most : Nat) : Nat → G
  | 0 => treeT A (n - 1)
  | k + 1 => addT n most (A.getD 2 0) (depT A n (n - 1)) (moreT A n most k) (A.getD (9 + 2 * k) 0) (A.getD (10 + 2 * k) 0)
def townL (A : List Nat) (cs most : Nat) : G := moreT A (townN A cs) most (A.getD 1 0 % 10)
theorem townN_le (A : List Nat) {cs : Nat} (h : 1 ≤ cs) : 1 ≤ townN A cs ∧ townN A cs ≤ cs := by
  have := Nat.mod_lt (A.getD 0 0) (show cs > 0 by omega)
  unfold townN; omega
theorem treeT_tree (A : List Nat) {n : Nat} (h1 : 1 ≤ n) : Tree n (treeT A (n - 1)) where
  val := fun e he => by
    obtain ⟨i, hi, rfl⟩ := List.mem_map.1 he
    have := List.mem_range.1 hi
    have h2 := Nat.mod_lt (A.getD (3 + (i + 1)) 0) (show i + 1 > 0 by omega)
    exact ⟨h2, by simp only; omega⟩
  len := by rw [treeT_length]; omega
  top := fun i hi => by
    unfold treeT st
    rw [List.getD_eq_getElem?_getD, List.getElem?_map, List.getElem?_range (by omega)]; rfl
theorem Tree.add {n : Nat} {L : G} (h : Tree n L) {e : E} (he : e.a < e.b ∧ e.b < n) : Tree n (L ++ [e]) where
  val := fun x hx => by
    rcases List.mem_append.1 hx with h2 | h2
    · exact h.val x h2
    · rw [List.mem_singleton.1 h2]; exact he
  len := by rw [List.length_append]; have := h.len; omega
  top := fun i hi => by
    have h2 := h.top i hi
    have hlt := (h.lt hi).1
    unfold st at *
    rw [List.getD_eq_getElem?_getD, List.getElem?_append_left hlt, ← List.getD_eq_getElem?_getD]; exact h2
theorem addT_tree {n most ev : Nat} {D : List Nat} {L : G} (h1 : 1 ≤ n) (h : Tree n L) (x y : Nat) : Tree n (addT n most ev D L x y) := by
  unfold addT
  split
  · exact h
  · rename_i hn
    have hx := Nat.mod_lt x (show n > 0 by omega)
    have hy := Nat.mod_lt y (show n > 0 by omega)
    exact h.add ⟨by simp only; omega, by simp only; omega⟩
theorem addT_len {n most ev : Nat} {D : List Nat} {L : G} (h : L.length ≤ most) (x y : Nat) : (addT n most ev D L x y).length ≤ most := by
  unfold addT
  split
  · exact h
  · rw [List.length_append, List.length_singleton]; omega
theorem moreT_tree (A : List Nat) {n most : Nat} (h1 : 1 ≤ n) (hm : n ≤ most + 1) : ∀ k, Tree n (moreT A n most k) ∧ (moreT A n most k).length ≤ most
  | 0 => ⟨treeT_tree A h1, by rw [moreT, treeT_length]; omega⟩
  | k + 1 => ⟨addT_tree h1 (moreT_tree A h1 hm k).1 _ _, addT_len (moreT_tree A h1 hm k).2 _ _⟩
theorem Tree.conn {n : Nat} {L : G} (h : Tree n L) : Conn n L := by
  intro S hS
  have key : ∀ v, v < n → S v = S 0 := by
    intro v
    induction v using Nat.strongRecOn with
    | ind v ih =>
      intro hv
      cases v with
      | zero => rfl
      | succ v =>
        obtain ⟨hl, ha⟩ := h.lt hv
        have hm : st L v ∈ L := by
          unfold st
          rw [List.getD_eq_getElem?_getD, List.getElem?_eq_getElem hl]; exact List.getElem_mem hl
        have := hS _ hm
        rw [h.top v hv, ih _ ha (by omega)] at this
        exact this.symm
  intro u v hu hv
  rw [key u hu, key v hv]
theorem Tree.ok {n : Nat} {L : G} (h : Tree n L) (h1 : 1 ≤ n) (h6 : n ≤ 6) (h9 : L.length ≤ 9) : Ok n L := ⟨h1, h6, h9, h.val, h.conn⟩
theorem town_tree (A : List Nat) {cs most : Nat} (h1 : 1 ≤ cs) (hm : cs ≤ most + 1) : Tree (townN A cs) (townL A cs most) ∧ (townL A cs most).length ≤ most := by
  obtain ⟨a, b⟩ := townN_le A h1
  exact moreT_tree A a (by omega) _
theorem town_ok (A : List Nat) {cs most : Nat} (h1 : 1 ≤ cs) (h6 : cs ≤ 6) (hm : cs ≤ most + 1) (h9 : most ≤ 9) : Ok (townN A cs) (townL A cs most) := by
  obtain ⟨a, b⟩ := townN_le A h1
  obtain ⟨c, d⟩ := town_tree A h1 hm
  exact c.ok a (by omega) (by omega)
end R2
