/-
  Closed sets, what follows, all closed sets: the program's numbers and the reference's lists agree. Conditions: none.
-/
import Derived.Test.YthhfgcejamfinaaGreatP6m
import Derived.Test.YthhfgcejamfinaaGreatP6z
set_option linter.unusedVariables false
set_option linter.unusedSimpArgs false
set_option linter.deprecated false
namespace Go.V.R6
theorem rl_all (ks : List Kn) : rl ks (-1) = ks.map fun k => (k.1, k.2.1) := by
  unfold rl
  rw [List.filter_eq_self.2]
  intro k _
  simp only [bne_iff_ne, ne_eq]; omega
theorem self_range (l : Bk) : l = (List.range l.length).map (sAt l) := by
  refine List.ext_getElem (by simp) fun i h1 h2 => ?_
  simp [sAt, h1]
theorem closed_lst {n : Int} {l : Bk} (h : check n l = 0) {f : Nat} : closedR l (lst f) = closedM (rl (knU l l.length) (-1)) f := by
  have hn := check_range h
  have h6 := pow_le64 hn.2
  rw [rl_all]
  unfold closedR closedM knU
  conv => lhs; rw [self_range l]
  rw [List.map_map, List.all_map, List.all_map]
  rw [Bool.eq_iff_iff, List.all_eq_true, List.all_eq_true]
  refine forall_congr' fun i => ?_
  by_cases hi : i ∈ List.range l.length
  · have hi' := List.mem_range.1 hi
    obtain ⟨e1, e2, l1, l2⟩ := sent_lst h hi'
    simp only [hi, true_implies, Function.comp]
    rw [e1, e2, part_lst (show (knAt l i).1 < 256 by omega), part_lst (show (knAt l i).2.1 < 256 by omega)]
  · simp [hi]
theorem rl_okN {n : Int} {l : Bk} (h : check n l = 0) : Ok (rl (knU l l.length) (-1)) n.toNat := by
  intro r hr
  rw [rl_all] at hr
  obtain ⟨k, hk, rfl⟩ := List.mem_map.1 hr
  exact knU_ok h k hk
theorem isCl_eq {n : Int} {l : Bk} (h : check n l = 0) {f : Nat} (hf : f < 256) : isCl (knU l l.length) f = closedR l (lst f) := by
  rw [closed_lst h]
  exact clo_beq (rl_ok (knU_OK h) (-1)) hf
theorem closed_eq (n : Int) (l : Bk) (set : List Int) : (decide (asked n l set = 0) && fol (openedM n l).2 (-1) (askedM n l set) == askedM n l set) = (decide (asked n l set = 0) && closedR l set) := by
  by_cases ha : asked n l set = 0
  · have hc := (asked_ok ha).1
    have hl := (asked_ok ha).2
    have hn := check_range hc
    have h6 := maskOf_lt64 hn.2 hl
    have e := isCl_eq hc (show maskOf set < 256 by omega)
    rw [lst_maskOf hn.2 hl] at e
    rw [← e, openedM_ok hc, show askedM n l set = maskOf set by simp [askedM, ha]]
    rfl
  · simp [ha]

/-! ### all sets -/
theorem sets_dec : ∀ n : Nat, n < 7 → 0 < n → setsA n = (isort cmpF (List.range (2 ^ n))).map lst := by decide +kernel
theorem setsA_eq {n : Int} (h1 : 1 ≤ n) (h6 : n ≤ 6) : setsA n = (isort cmpF (List.range (2 ^ n.toNat))).map lst := by
  have := sets_dec n.toNat (by omega) (by omega)
  rwa [show ((n.toNat : Nat) : Int) = n by omega] at this
theorem isort_filter {l : List Nat} (h : ∀ x ∈ l, x < 256) (p : Nat → Bool) : (isort cmpF l).filter p = isort cmpF (l.filter p) :=
  isort_unique (cmpF_tot fun x hx => h x (List.mem_filter.1 hx).1) ((isort_perm cmpF l).filter p) ((isort_sorted (cmpF_tot h)).filter p)
theorem allR_eq {n : Int} {l : Bk} (h : check n l = 0) : allR n l = (sortedM (2 ^ n.toNat - 1) (isCl (knU l l.length))).map lst := by
  have hn := check_range h
  have h6 := pow_le64 hn.2
  have hp := Nat.two_pow_pos n.toNat
  unfold allR sortedM uptoF
  rw [setsA_eq hn.1 hn.2, List.filter_map, show 2 ^ n.toNat - 1 + 1 = 2 ^ n.toNat by omega]
  congr 1
  rw [← isort_filter (fun x hx => by have := List.mem_range.1 hx; omega)]
  refine List.filter_congr fun x hx => ?_
  have := List.mem_range.1 ((isort_perm cmpF _).mem_iff.1 hx)
  exact (isCl_eq h (by omega)).symm
theorem all_eq (n : Int) (l : Bk) : allM n l = (if check n l = 0 then allR n l else []) := by
  unfold allM
  by_cases h : check n l = 0
  · rw [if_pos h, if_pos h, allR_eq h]
  · rw [if_neg h, if_neg h]
theorem allR_mem {n : Int} {l : Bk} (h : check n l = 0) {c : List Int} : c ∈ allR n l ↔ ∃ g, g < 2 ^ n.toNat ∧ closedM (rl (knU l l.length) (-1)) g = true ∧ c = lst g := by
  have hn := check_range h
  have h6 := pow_le64 hn.2
  have hp := Nat.two_pow_pos n.toNat
  rw [allR_eq h, List.mem_map]
  constructor
  · rintro ⟨g, hg, rfl⟩
    obtain ⟨h1, h2⟩ := sortedM_mem.1 hg
    rw [isCl_eq h (by omega), closed_lst h] at h2
    exact ⟨g, by omega, h2, rfl⟩
  · rintro ⟨g, h1, h2, rfl⟩
    refine ⟨g, sortedM_mem.2 ⟨by omega, ?_⟩, rfl⟩
    rw [isCl_eq h (by omega), closed_lst h]; exact h2

/-! ### what follows -/
theorem followsR_eq {n : Int} {l : Bk} (h : check n l = 0) {f : Nat} (hf : f < 2 ^ n.toNat) : followsR n l (lst f) = lst (fol (knU l l.length) (-1) f) := by
  have hn := check_range h
  have h6 := pow_le64 hn.2
  have hL := rl_okN h
  have hfull := closed_full hL
  have hp := Nat.two_pow_pos n.toNat
  refine sorted_ext ?_ (lst_sorted _) fun x => ?_
  · exact List.Pairwise.filter _ (range_sorted _)
  · unfold followsR followsUpto
    rw [List.mem_filter, List.mem_map, lst_mem]
    constructor
    · rintro ⟨⟨i, hi, rfl⟩, hx⟩
      have hi := List.mem_range.1 hi
      rw [List.all_eq_true] at hx
      refine ⟨i, by omega, clo_bit.2 ⟨by omega, fun c hc hs hcl => ?_⟩, rfl⟩
      have hg : c &&& (2 ^ n.toNat - 1) < 2 ^ n.toNat := by
        have := sub_le (and_sub_right c (2 ^ n.toNat - 1)); omega
      have hin := hx _ ((allR_mem h).2 ⟨c &&& (2 ^ n.toNat - 1), hg, closed_and hcl hfull, rfl⟩)
      rw [part_lst (by omega), sub_and hs (sub_full hf)] at hin
      simp only [Bool.not_true, Bool.false_or] at hin
      rw [show Int.ofNat i = (i : Int) from rfl, lst_contains (by omega) (by omega)] at hin
      rw [Int.toNat_natCast] at hin
      exact sub_iff.1 (and_sub_left c _) i hin
    · rintro ⟨i, h8, hi, rfl⟩
      have hin : i < n.toNat := by
        have := clo_min (n := 8) (show 2 ^ n.toNat - 1 < 2 ^ 8 by omega) (sub_full hf) hfull
        have := sub_iff.1 this i hi
        rw [full_testBit] at this
        simpa using this
      refine ⟨⟨i, List.mem_range.2 hin, rfl⟩, List.all_eq_true.2 fun c hc => ?_⟩
      obtain ⟨g, hg, hcl, rfl⟩ := (allR_mem h).1 hc
      rw [part_lst (by omega), lst_contains (by omega) (by omega)]
      by_cases hs : sub f g = true
      · have := sub_iff.1 (clo_min (n := 8) (show g < 2 ^ 8 by omega) hs hcl) i hi
        simp [this]
      · simp [hs]
theorem follows_eq (n : Int) (l : Bk) (set : List Int) : (if asked n l set = 0 then lst (fol (openedM n l).2 (-1) (askedM n l set)) else []) = (if asked n l set = 0 then followsR n l set else []) := by
  by_cases ha : asked n l set = 0
  · have hc := (asked_ok ha).1
    have hl := (asked_ok ha).2
    have hn := check_range hc
    rw [if_pos ha, if_pos ha, openedM_ok hc, show askedM n l set = maskOf set by simp [askedM, ha]]
    rw [← followsR_eq hc (maskOf_lt hl), lst_maskOf hn.2 hl]
  · rw [if_neg ha, if_neg ha]
theorem followsR_length {n : Int} (hn : n ≤ 6) (l : Bk) (set : List Int) : (followsR n l set).length ≤ 6 := by
  have := followsUpto_length n l set n.toNat
  unfold followsR; omega
end Go.V.R6
