/-
  Needless sentences, the fewest facts, and books that say the same: the program's and the reference's agree. Conditions: none.
-/
import Derived.Test.YthhfgcejamfinaaGreatP6q
set_option linter.unusedVariables false
set_option linter.unusedSimpArgs false
set_option linter.deprecated false
namespace Go.V.R6
theorem needM_length (n : Int) (l : Bk) : (if check n l = 0 then needUpto n l l.length else []).length ≤ l.length := by
  split
  · exact needUpto_length n l _
  · simp
/-- two lists of sets are equal just if they are the same -/
theorem equalR_lst {a b : List Nat} (ha : ∀ x ∈ a, x < 64) (hb : ∀ x ∈ b, x < 64) : equalR (a.map lst) (b.map lst) = decide (a = b) := by
  rw [Bool.eq_iff_iff, decide_eq_true_eq]
  unfold equalR
  rw [Bool.and_eq_true, beq_iff_eq, List.all_eq_true, List.length_map, List.length_map]
  constructor
  · rintro ⟨hl, h⟩
    refine List.ext_getElem hl fun i h1 h2 => ?_
    have := h i (List.mem_range.2 h1)
    unfold eqAt at this
    rw [show (a.map lst).getD i [] = lst a[i] by simp [h1], show (b.map lst).getD i [] = lst b[i] by simp [h2], lst_mem_inj (hb _ (List.getElem_mem _)) (ha _ (List.getElem_mem _)), beq_iff_eq] at this
    exact this
  · rintro rfl
    refine ⟨rfl, fun i hi => ?_⟩
    have h1 := List.mem_range.1 hi
    unfold eqAt
    rw [show (a.map lst).getD i [] = lst a[i] by simp [h1], lst_mem_inj (ha _ (List.getElem_mem _)) (ha _ (List.getElem_mem _))]
    simp
theorem sortedM_eq_iff {m : Nat} {p q : Nat → Bool} : sortedM m p = sortedM m q ↔ ∀ f, f ≤ m → p f = q f := by
  constructor
  · intro h f hf
    rw [Bool.eq_iff_iff]
    have h1 := sortedM_mem (m := m) (p := p) (x := f)
    have h2 := sortedM_mem (m := m) (p := q) (x := f)
    rw [h] at h1
    constructor
    · intro hp; exact (h2.1 (h1.2 ⟨hf, hp⟩)).2
    · intro hq; exact (h1.1 (h2.2 ⟨hf, hq⟩)).2
  · intro h
    unfold sortedM uptoF
    congr 1
    exact List.filter_congr fun x hx => h x (by have := List.mem_range.1 hx; omega)
/-- the closed sets of two books are the same -/
theorem equal_iff {n : Int} {a b : Bk} (ha : check n a = 0) (hb : check n b = 0) : equalR (allR n a) (allR n b) = true ↔ ∀ f, f < 2 ^ n.toNat → closedM (rl (knU a a.length) (-1)) f = closedM (rl (knU b b.length) (-1)) f := by
  have hn := check_range ha
  have h64 := pow_le64 hn.2
  have hp := Nat.two_pow_pos n.toNat
  rw [allR_eq ha, allR_eq hb, equalR_lst (fun x hx => by have := (sortedM_mem.1 hx).1; omega) (fun x hx => by have := (sortedM_mem.1 hx).1; omega), decide_eq_true_eq, sortedM_eq_iff]
  constructor
  · intro h f hf
    have := h f (by omega)
    rw [isCl_eq ha (by omega), isCl_eq hb (by omega), closed_lst ha, closed_lst hb] at this
    exact this
  · intro h f hf
    rw [isCl_eq ha (by omega), isCl_eq hb (by omega), closed_lst ha, closed_lst hb]
    exact h f (by omega)
/-- a rule holds in all closed sets just if what follows from its If has its Then -/
theorem rule_iff {L : Rs} {n : Nat} (hn : n ≤ 8) (hL : Ok L n) {r : Nat × Nat} (hr : r.1 < 2 ^ n) : sub r.2 (clo L 8 r.1) = true ↔ ∀ f, f < 2 ^ n → closedM L f = true → sub r.1 f = true → sub r.2 f = true := by
  have hle : 2 ^ n ≤ 2 ^ 8 := Nat.pow_le_pow_right (by omega) hn
  have hL8 : Ok L 8 := fun x hx => ⟨by have := (hL x hx).1; omega, by have := (hL x hx).2; omega⟩
  have hp := Nat.two_pow_pos n
  constructor
  · intro h f hf hc hs
    exact sub_trans h (clo_min (by omega) hs hc)
  · intro h
    have hfull := clo_min (n := 8) (show 2 ^ n - 1 < 2 ^ 8 by omega) (sub_full hr) (closed_full hL)
    exact h _ (by have := sub_le hfull; omega) (clo_closed hL8) (sub_clo (by omega))
theorem sayAll_iff {n : Int} {a b : Bk} (ha : check n a = 0) (hb : check n b = 0) : sayAll (knU a a.length) (knU b b.length) = true ↔ ∀ f, f < 2 ^ n.toNat → closedM (rl (knU a a.length) (-1)) f = true → closedM (rl (knU b b.length) (-1)) f = true := by
  have hn := check_range ha
  unfold sayAll
  rw [Bool.not_eq_true', List.any_eq_false]
  constructor
  · intro h f hf hc
    rw [closedM_iff]
    intro r hr hs
    rw [rl_all] at hr
    obtain ⟨k, hk, rfl⟩ := List.mem_map.1 hr
    have h1 := h k hk
    simp only [Bool.not_eq_true, Bool.not_eq_false'] at h1
    have hk1 := knU_ok hb k hk
    exact (rule_iff (r := (k.1, k.2.1)) (show n.toNat ≤ 8 by omega) (rl_okN ha) hk1.1).1 h1 f hf hc hs
  · intro h k hk
    have hk1 := knU_ok hb k hk
    simp only [Bool.not_eq_true, Bool.not_eq_false']
    refine (rule_iff (r := (k.1, k.2.1)) (show n.toNat ≤ 8 by omega) (rl_okN ha) hk1.1).2 fun f hf hc hs => ?_
    have := h f hf hc
    rw [closedM_iff] at this
    exact this (k.1, k.2.1) (by rw [rl_all]; exact List.mem_map.2 ⟨k, hk, rfl⟩) hs
theorem same_eq (n : Int) (a : Bk) (m : Int) (b : Bk) : sameM n a m b = (decide (sameErr n a m b = 0) && equalR (allR n a) (allR m b)) := by
  unfold sameM
  by_cases he : sameErr n a m b = 0
  · have h1 : check n a = 0 := by
      unfold sameErr at he; split at he
      · assumption
      · exact he
    have h2 : check m b = 0 := by
      unfold sameErr at he; rw [if_pos h1] at he; split at he
      · assumption
      · exact he
    have h3 : n = m := by
      unfold sameErr at he; rw [if_pos h1, if_pos h2] at he; split at he
      · assumption
      · cases he
    subst h3
    rw [openedM_ok h1, openedM_ok h2]
    congr 1
    rw [Bool.eq_iff_iff, Bool.and_eq_true, sayAll_iff h1 h2, sayAll_iff h2 h1, equal_iff h1 h2]
    constructor
    · rintro ⟨x, y⟩ f hf
      rw [Bool.eq_iff_iff]
      exact ⟨x f hf, y f hf⟩
    · intro h
      exact ⟨fun f hf hc => by rw [← h f hf]; exact hc, fun f hf hc => by rw [h f hf]; exact hc⟩
  · simp [he]
theorem less_mem {l : Bk} {i : Nat} {s : List Int × List Int} : s ∈ less l i ↔ ∃ j, j ≠ i ∧ l[j]? = some s := by
  unfold less
  rw [List.mem_append]
  constructor
  · rintro (h | h)
    · obtain ⟨j, hj⟩ := List.getElem?_of_mem h
      rw [List.getElem?_take] at hj
      split at hj
      · exact ⟨j, by omega, hj⟩
      · cases hj
    · obtain ⟨j, hj⟩ := List.getElem?_of_mem h
      rw [List.getElem?_drop] at hj
      exact ⟨i + 1 + j, by omega, hj⟩
  · rintro ⟨j, hj, hs⟩
    rcases Nat.lt_or_gt_of_ne hj with h | h
    · exact .inl (List.mem_of_getElem? (i := j) (by rw [List.getElem?_take, if_pos h]; exact hs))
    · exact .inr (List.mem_of_getElem? (i := j - (i + 1)) (by rw [List.getElem?_drop, show i + 1 + (j - (i + 1)) = j by omega]; exact hs))
theorem check_less {n : Int} {l : Bk} (h : check n l = 0) (i : Nat) : check n (less l i) = 0 := by
  have hn := check_range h
  have h8 := check_many h
  refine check_none (by unfold inI; simp; omega) (by unfold less; simp; omega) fun j hj => ?_
  have hm : sAt (less l i) j ∈ less l i := by unfold sAt; simp [hj]
  obtain ⟨j', _, hj'⟩ := less_mem.1 hm
  have hlt := (List.getElem?_eq_some_iff.1 hj').1
  have := check_at h hlt
  rw [show sAt l j' = sAt (less l i) j by simp [sAt, hj']] at this
  unfold checkAt sentErr
  unfold sAt at this
  rw [this.1, this.2]; rfl
theorem rl_but {l : Bk} {i : Nat} {r : Nat × Nat} : r ∈ rl (knU l l.length) (i : Int) ↔ ∃ j, j < l.length ∧ j ≠ i ∧ r = ((knAt l j).1, (knAt l j).2.1) := by
  unfold rl knU
  simp only [List.mem_map, List.mem_filter, List.mem_range]
  constructor
  · rintro ⟨k, ⟨⟨j, hj, rfl⟩, hk⟩, rfl⟩
    refine ⟨j, hj, ?_, rfl⟩
    intro e; subst e
    simp [knAt] at hk
  · rintro ⟨j, hj, hne, rfl⟩
    refine ⟨knAt l j, ⟨⟨j, hj, rfl⟩, ?_⟩, rfl⟩
    simp only [knAt, bne_iff_ne, ne_eq]; omega
theorem rl_less {l : Bk} {i : Nat} {r : Nat × Nat} : r ∈ rl (knU (less l i) (less l i).length) (-1) ↔ r ∈ rl (knU l l.length) (i : Int) := by
  rw [rl_but, rl_all]
  unfold knU
  simp only [List.mem_map, List.mem_range]
  constructor
  · rintro ⟨k, ⟨j, hj, rfl⟩, rfl⟩
    have hm : sAt (less l i) j ∈ less l i := by unfold sAt; simp [hj]
    obtain ⟨j', hne, hj'⟩ := less_mem.1 hm
    refine ⟨j', (List.getElem?_eq_some_iff.1 hj').1, hne, ?_⟩
    have : sAt l j' = sAt (less l i) j := by simp [sAt, hj']
    simp only [knAt, this]
  · rintro ⟨j, hj, hne, rfl⟩
    have hm : sAt l j ∈ less l i := less_mem.2 ⟨j, hne, by simp [sAt, hj]⟩
    obtain ⟨j', hj'⟩ := List.getElem?_of_mem hm
    have hlt := (List.getElem?_eq_some_iff.1 hj').1
    refine ⟨knAt (less l i) j', ⟨j', hlt, rfl⟩, ?_⟩
    have : sAt (less l i) j' = sAt l j := by simp [sAt, hj']
    simp only [knAt, this]
theorem spare_eq {n : Int} {l : Bk} (h : check n l = 0) {i : Nat} (hi : i < l.length) : spare (knU l l.length) (knAt l i) = equalR (allR n (less l i)) (allR n l) := by
  have hn := check_range h
  have hL := rl_okN h
  have hL' : Ok (rl (knU l l.length) (i : Int)) n.toNat := fun r hr => by
    obtain ⟨j, hj, _, rfl⟩ := rl_but.1 hr
    exact hL _ (by rw [rl_all]; exact List.mem_map.2 ⟨knAt l j, List.mem_map.2 ⟨j, List.mem_range.2 hj, rfl⟩, rfl⟩)
  have hk := knU_ok h (knAt l i) (List.mem_map.2 ⟨i, List.mem_range.2 hi, rfl⟩)
  have hsame : ∀ f, closedM (rl (knU (less l i) (less l i).length) (-1)) f = closedM (rl (knU l l.length) (i : Int)) f := fun f => by
    rw [Bool.eq_iff_iff, closedM_iff, closedM_iff]
    exact ⟨fun hh r hr => hh r (rl_less.2 hr), fun hh r hr => hh r (rl_less.1 hr)⟩
  have hfull : ∀ f, closedM (rl (knU l l.length) (-1)) f = true ↔ closedM (rl (knU l l.length) (i : Int)) f = true ∧ (sub (knAt l i).1 f = true → sub (knAt l i).2.1 f = true) := fun f => by
    rw [closedM_iff, closedM_iff]
    have hmem : ∀ r, r ∈ rl (knU l l.length) (-1) ↔ ∃ j, j < l.length ∧ r = ((knAt l j).1, (knAt l j).2.1) := fun r => by
      rw [rl_all]; unfold knU
      simp only [List.mem_map, List.mem_range]
      constructor
      · rintro ⟨k, ⟨j, hj, rfl⟩, rfl⟩; exact ⟨j, hj, rfl⟩
      · rintro ⟨j, hj, rfl⟩; exact ⟨knAt l j, ⟨j, hj, rfl⟩, rfl⟩
    constructor
    · intro hh
      refine ⟨fun r hr => ?_, fun hs => hh ((knAt l i).1, (knAt l i).2.1) ((hmem _).2 ⟨i, hi, rfl⟩) hs⟩
      obtain ⟨j, hj, _, rfl⟩ := rl_but.1 hr
      exact hh _ ((hmem _).2 ⟨j, hj, rfl⟩)
    · rintro ⟨h1, h2⟩ r hr hs
      obtain ⟨j, hj, rfl⟩ := (hmem _).1 hr
      by_cases e : j = i
      · subst e; exact h2 hs
      · exact h1 _ (rl_but.2 ⟨j, hj, e, rfl⟩) hs
  rw [Bool.eq_iff_iff, equal_iff (check_less h i) h]
  unfold spare
  have hr := rule_iff (r := ((knAt l i).1, (knAt l i).2.1)) (show n.toNat ≤ 8 by omega) hL' hk.1
  show sub (knAt l i).2.1 (clo (rl (knU l l.length) (i : Int)) 8 (knAt l i).1) = true ↔ _
  rw [hr]
  constructor
  · intro hh f hf
    rw [hsame, Bool.eq_iff_iff, hfull]
    exact ⟨fun hc => ⟨hc, hh f hf hc⟩, fun hc => hc.1⟩
  · intro hh f hf hc hs
    have := hh f hf
    rw [hsame, Bool.eq_iff_iff, hfull] at this
    exact (this.1 hc).2 hs
theorem need_eq (n : Int) (l : Bk) : needM n l = (if check n l = 0 then needUpto n l l.length else []) := by
  unfold needM
  by_cases h : check n l = 0
  · rw [if_pos h, if_pos h]
    unfold needUpto
    have e : knU l l.length = (List.range l.length).map (knAt l) := rfl
    conv => lhs; rw [show (knU l l.length).filter (spare (knU l l.length)) = ((List.range l.length).map (knAt l)).filter (spare (knU l l.length)) from rfl]
    rw [List.filter_map, List.map_map]
    rw [List.filter_congr (p := spare (knU l l.length) ∘ knAt l) (q := fun i => equalR (allR n (less l i)) (allR n l)) fun i hi => spare_eq h (List.mem_range.1 hi)]
    rfl
  · rw [if_neg h, if_neg h]
/-! ### the fewest facts -/
theorem minOf_two (x y : Nat) (t : List Nat) : minOf (x :: y :: t) = minOf ((if (oc8 y : Int) - oc8 x < 0 then y else x) :: t) := rfl
theorem minOf_le : ∀ (t : List Nat) (x : Nat), oc8 (minOf (x :: t)) ≤ oc8 x ∧ ∀ z ∈ t, oc8 (minOf (x :: t)) ≤ oc8 z
  | [], x => by simp [minOf]
  | y :: t, x => by
    rw [minOf_two]
    split
    · rename_i h
      obtain ⟨h1, h2⟩ := minOf_le t y
      refine ⟨by omega, fun z hz => ?_⟩
      rcases List.mem_cons.1 hz with e | e
      · subst e; exact h1
      · exact h2 z e
    · rename_i h
      obtain ⟨h1, h2⟩ := minOf_le t x
      refine ⟨h1, fun z hz => ?_⟩
      rcases List.mem_cons.1 hz with e | e
      · subst e; omega
      · exact h2 z e
theorem minOf_cons : ∀ (t : List Nat) (x y : Nat), minOf (x :: y :: t) = if oc8 x ≤ oc8 (minOf (y :: t)) then x else minOf (y :: t)
  | [], x, y => by
    rw [minOf_two]
    show (if (oc8 y : Int) - oc8 x < 0 then y else x) = if oc8 x ≤ oc8 y then x else y
    split <;> split <;> first | rfl | omega
  | z :: t, x, y => by
    rw [minOf_two]
    by_cases h : (oc8 y : Int) - oc8 x < 0
    · rw [if_pos h]
      have := (minOf_le (z :: t) y).1
      rw [if_neg (by omega)]
    · rw [if_neg h, minOf_cons t x z, minOf_cons t y z]
      split <;> split <;> first | rfl | omega | (split <;> first | rfl | omega)
def fewF (f b : Nat) : Nat := if oc8 f ≤ oc8 b then f else b
theorem fewF_min : ∀ (t : List Nat) (x b : Nat), (x :: t).foldr fewF b = if oc8 (minOf (x :: t)) ≤ oc8 b then minOf (x :: t) else b
  | [], x, b => rfl
  | y :: t, x, b => by
    rw [List.foldr_cons, fewF_min t y b, minOf_cons]
    unfold fewF
    split <;> split <;> first | rfl | omega | (split <;> first | rfl | omega)
theorem fewF_of {b : Nat} : ∀ {qs : List Nat}, b ∈ qs → qs.foldr fewF b = minOf qs
  | x :: t, h => by
    rw [fewF_min]
    have h1 := minOf_le t x
    rw [if_pos]
    rcases List.mem_cons.1 h with e | e
    · subst e; exact h1.1
    · exact h1.2 b e
theorem foldr_filter {Q : Nat → Bool} (b : Nat) : ∀ l : List Nat, l.foldr (fun f b => if (decide (oc8 f ≤ oc8 b) && Q f) = true then f else b) b = (l.filter Q).foldr fewF b
  | [] => rfl
  | x :: l => by
    rw [List.foldr_cons, foldr_filter b l, List.filter_cons]
    by_cases hq : Q x = true
    · rw [if_pos hq, List.foldr_cons]; unfold fewF; simp [hq]
    · simp [hq]
theorem few_map {n : Int} {l : Bk} (h : check n l = 0) {f0 : Nat} (hf0 : f0 < 2 ^ n.toNat) : ∀ ss : List Nat, (∀ f ∈ ss, f < 2 ^ n.toNat) →
    (ss.map lst).foldr (fewStep n l (lst (fol (knU l l.length) (-1) f0))) (lst f0) = lst (ss.foldr (fun f b => if (decide (oc8 f ≤ oc8 b) && (fol (knU l l.length) (-1) f == fol (knU l l.length) (-1) f0)) = true then f else b) f0)
  | [], _ => rfl
  | f :: ss, hs => by
    have hn := check_range h
    have h64 := pow_le64 hn.2
    have hf := hs f (by simp)
    rw [List.map_cons, List.foldr_cons, List.foldr_cons, few_map h hf0 ss (fun g hg => hs g (by simp [hg]))]
    generalize ss.foldr _ f0 = b
    unfold fewStep
    have hok := rl_ok (knU_OK h) (-1)
    have e : (part (lst f) (lst (fol (knU l l.length) (-1) f0)) && part (lst (fol (knU l l.length) (-1) f0)) (followsR n l (lst f))) = (fol (knU l l.length) (-1) f == fol (knU l l.length) (-1) f0) := by
      rw [followsR_eq h hf, part_lst (show f < 256 by omega), part_lst (fol_lt _ _ _), Bool.eq_iff_iff, Bool.and_eq_true, beq_iff_eq]
      constructor
      · rintro ⟨h1, h2⟩
        exact sub_antisymm (clo_min (fol_lt _ _ _) h1 (clo_closed hok)) h2
      · intro e
        rw [← e]
        exact ⟨sub_clo (show f < 2 ^ 8 by omega), sub_refl _⟩
    rw [e, lst_len, lst_len]
    split <;> rfl
theorem few_eq (n : Int) (l : Bk) (set : List Int) : fewM n l set = (if asked n l set = 0 then fewR n l set else []) := by
  unfold fewM
  by_cases ha : asked n l set = 0
  · have hc := (asked_ok ha).1
    have hl := (asked_ok ha).2
    have hn := check_range hc
    have hp := Nat.two_pow_pos n.toNat
    rw [if_pos ha, if_pos ha, openedM_ok hc, show askedM n l set = maskOf set by simp [askedM, ha]]
    have e0 : lst (maskOf set) = set := lst_maskOf hn.2 hl
    have hlt := maskOf_lt hl
    generalize maskOf set = f0 at *
    subst e0
    have h64 := pow_le64 hn.2
    unfold fewR fewFrom
    rw [followsR_eq hc hlt, setsA_eq hn.1 hn.2]
    have hs : ∀ f ∈ isort cmpF (List.range (2 ^ n.toNat)), f < 2 ^ n.toNat := fun f hf => srt_mem.1 hf
    rw [few_map hc hlt _ hs, foldr_filter]
    unfold sortedM uptoF
    rw [show 2 ^ n.toNat - 1 + 1 = 2 ^ n.toNat by omega, ← isort_filter (fun x hx => by have := List.mem_range.1 hx; omega)]
    have hin : f0 ∈ (isort cmpF (List.range (2 ^ n.toNat))).filter (fun f => fol (knU l l.length) (-1) f == fol (knU l l.length) (-1) f0) := List.mem_filter.2 ⟨srt_mem.2 hlt, beq_self_eq_true (fol (knU l l.length) (-1) f0)⟩
    rw [fewF_of hin]
  · rw [if_neg ha, if_neg ha]
theorem fewM_length (n : Int) (l : Bk) (set : List Int) : (if asked n l set = 0 then fewR n l set else []).length ≤ 8 := by
  rw [← few_eq]; unfold fewM
  split
  · exact lst_length _
  · simp
end Go.V.R6
