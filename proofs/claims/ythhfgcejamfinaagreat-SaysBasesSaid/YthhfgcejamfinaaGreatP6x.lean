/-
  Shortest steps: the program's search and the reference's agree; so do steps carried out. Conditions: none.
-/
import Derived.Test.YthhfgcejamfinaaGreatP6v
set_option linter.unusedVariables false
set_option linter.unusedSimpArgs false
set_option linter.deprecated false
namespace Go.V.R6

/-! ### lists as numbers -/
theorem sorted_ext : ∀ {a b : List Int}, a.Pairwise (· < ·) → b.Pairwise (· < ·) → (∀ x, x ∈ a ↔ x ∈ b) → a = b
  | [], [], _, _, _ => rfl
  | [], y :: b, _, _, h => by have := (h y).2 (by simp); simp at this
  | x :: a, [], _, _, h => by have := (h x).1 (by simp); simp at this
  | x :: a, y :: b, ha, hb, h => by
    rw [List.pairwise_cons] at ha hb
    have hxy : x = y := by
      have h1 := (h x).1 (by simp)
      have h2 := (h y).2 (by simp)
      rcases List.mem_cons.1 h1 with e | e
      · exact e
      · rcases List.mem_cons.1 h2 with e' | e'
        · exact e'.symm
        · have := hb.1 x e; have := ha.1 y e'; omega
    subst hxy
    rw [sorted_ext ha.2 hb.2 (fun z => ?_)]
    constructor
    · intro hz
      have := (h z).1 (by simp [hz])
      rcases List.mem_cons.1 this with e | e
      · subst e; have := ha.1 z hz; omega
      · exact e
    · intro hz
      have := (h z).2 (by simp [hz])
      rcases List.mem_cons.1 this with e | e
      · subst e; have := hb.1 z hz; omega
      · exact e
theorem range_sorted (k : Nat) : ((List.range k).map Int.ofNat).Pairwise (· < ·) := by
  rw [List.pairwise_map]
  exact List.pairwise_lt_range.imp (fun h => by simp; omega)
theorem lst_sorted (m : Nat) : (lst m).Pairwise (· < ·) := by
  unfold lst
  rw [List.pairwise_map]
  refine List.Pairwise.filter _ ?_
  exact List.pairwise_lt_range.imp (fun h => by simp; omega)
theorem fold_bit : ∀ (l : List Int) (o i : Nat), (l.foldl (fun o x => o ||| 2 ^ x.toNat) o).testBit i = true ↔ o.testBit i = true ∨ ∃ x ∈ l, x.toNat = i
  | [], o, i => by simp
  | x :: l, o, i => by
    rw [List.foldl_cons, fold_bit l, Nat.testBit_or, Nat.testBit_two_pow]
    simp only [Bool.or_eq_true, decide_eq_true_eq, List.mem_cons, exists_eq_or_imp, or_assoc]
theorem maskOf_bit {l : List Int} {i : Nat} : (maskOf l).testBit i = true ↔ ∃ x ∈ l, x.toNat = i := by
  unfold maskOf; rw [fold_bit]; simp
theorem readErr_sorted (n : Int) : ∀ (l : List Int) (last : Int), readErr n l last = 0 → (∀ x ∈ l, 0 ≤ x ∧ x < n ∧ last < x) ∧ l.Pairwise (· < ·)
  | [], _, _ => by simp
  | x :: r, last, h => by
    rw [readErr_cons] at h
    split at h
    · cases h
    · split at h
      · cases h
      · obtain ⟨h1, h2⟩ := readErr_sorted n r x h
        refine ⟨fun y hy => ?_, List.pairwise_cons.2 ⟨fun y hy => (h1 y hy).2.2, h2⟩⟩
        rcases List.mem_cons.1 hy with e | e
        · subst e; omega
        · have := h1 y e; omega
theorem listed_range {n : Int} {l : List Int} (h : listed l n = 0) : (∀ x ∈ l, 0 ≤ x ∧ x < n) ∧ l.Pairwise (· < ·) := by
  rw [listed_eq] at h
  obtain ⟨h1, h2⟩ := readErr_sorted n l (-1) h
  exact ⟨fun x hx => ⟨(h1 x hx).1, (h1 x hx).2.1⟩, h2⟩
theorem lst_maskOf {n : Int} {l : List Int} (hn : n ≤ 6) (h : listed l n = 0) : lst (maskOf l) = l := by
  obtain ⟨h1, h2⟩ := listed_range h
  refine sorted_ext (lst_sorted _) h2 fun x => ?_
  rw [lst_mem]
  constructor
  · rintro ⟨i, _, hi, rfl⟩
    obtain ⟨y, hy, e⟩ := maskOf_bit.1 hi
    have := h1 y hy
    have : y = (i : Int) := by omega
    exact this ▸ hy
  · intro hx
    have := h1 x hx
    exact ⟨x.toNat, by omega, maskOf_bit.2 ⟨x, hx, rfl⟩, by omega⟩
theorem lst_contains {m : Nat} {x : Int} (h0 : 0 ≤ x) (h8 : x < 8) : (lst m).contains x = m.testBit x.toNat := by
  rw [Bool.eq_iff_iff, List.contains_iff_mem, lst_mem]
  constructor
  · rintro ⟨i, _, hi, rfl⟩; simpa using hi
  · intro h; exact ⟨x.toNat, by omega, h, by omega⟩
theorem part_lst {a b : Nat} (ha : a < 256) : part (lst a) (lst b) = sub a b := by
  rw [Bool.eq_iff_iff, sub_iff]
  unfold part
  rw [List.all_eq_true]
  constructor
  · intro h i hi
    have h8 : i < 8 := testBit_lt (n := 8) ha hi
    have := h (i : Int) (lst_mem.2 ⟨i, h8, hi, rfl⟩)
    rw [lst_contains (by omega) (by omega)] at this
    simpa using this
  · intro h x hx
    obtain ⟨i, h8, hi, rfl⟩ := lst_mem.1 hx
    rw [lst_contains (by omega) (by omega)]
    simpa using h i hi
theorem joined_lst {n : Int} {a b : Nat} (hn : n ≤ 6) (ha : a < 2 ^ n.toNat) (hb : b < 2 ^ n.toNat) : joined n (lst a) (lst b) = lst (a ||| b) := by
  refine sorted_ext ?_ (lst_sorted _) fun x => ?_
  · unfold joined joinedUpto
    exact List.Pairwise.filter _ (range_sorted _)
  · unfold joined joinedUpto
    rw [List.mem_filter, List.mem_map, lst_mem, Bool.or_eq_true]
    constructor
    · rintro ⟨⟨i, hi, rfl⟩, h⟩
      have hi := List.mem_range.1 hi
      refine ⟨i, by omega, ?_, rfl⟩
      rw [show (Int.ofNat i) = (i : Int) from rfl, lst_contains (by omega) (by omega), lst_contains (by omega) (by omega)] at h
      rw [Nat.testBit_or, Bool.or_eq_true]
      simpa using h
    · rintro ⟨i, h8, hi, rfl⟩
      rw [lst_contains (by omega) (by omega), lst_contains (by omega) (by omega)]
      rw [Nat.testBit_or, Bool.or_eq_true] at hi
      refine ⟨⟨i, List.mem_range.2 ?_, rfl⟩, by simpa using hi⟩
      rcases hi with hi | hi
      · exact testBit_lt ha hi
      · exact testBit_lt hb hi

/-! ### sentences of a checked book -/
theorem knU_get {l : Bk} {i : Nat} (hi : i < l.length) : (knU l l.length).getD i (0, 0, 0) = knAt l i := by
  unfold knU
  rw [List.getD_eq_getElem?_getD, List.getElem?_map, List.getElem?_range hi]; rfl
theorem sent_lst {n : Int} {l : Bk} (h : check n l = 0) {i : Nat} (hi : i < l.length) : (sAt l i).1 = lst (knAt l i).1 ∧ (sAt l i).2 = lst (knAt l i).2.1 ∧ (knAt l i).1 < 2 ^ n.toNat ∧ (knAt l i).2.1 < 2 ^ n.toNat := by
  have hn := check_range h
  obtain ⟨h1, h2⟩ := check_at h hi
  exact ⟨(lst_maskOf hn.2 h1).symm, (lst_maskOf hn.2 h2).symm, maskOf_lt h1, maskOf_lt h2⟩
theorem or_lt {n : Int} {a b : Nat} (ha : a < 2 ^ n.toNat) (hb : b < 2 ^ n.toNat) : a ||| b < 2 ^ n.toNat := Nat.or_lt_two_pow ha hb

/-! ### steps carried out -/
theorem goes_fold {n : Int} {l : Bk} (h : check n l = 0) : ∀ (steps : List Int) (f : Nat) (e : Int), f < 2 ^ n.toNat →
    steps.foldl (goesStep n l) (lst f, e) = (lst (steps.foldl (goStep (knU l l.length)) (f, e)).1, (steps.foldl (goStep (knU l l.length)) (f, e)).2)
  | [], f, e, _ => rfl
  | i :: r, f, e, hf => by
    have hn := check_range h
    have h6 := pow_le64 hn.2
    rw [List.foldl_cons, List.foldl_cons]
    have key : ∃ g e', g < 2 ^ n.toNat ∧ goesStep n l (lst f, e) i = (lst g, e') ∧ goStep (knU l l.length) (f, e) i = (g, e') := by
      unfold goesStep goStep
      by_cases he : e = 0
      · subst he
        by_cases hr : i < 0 ∨ (l.length : Int) ≤ i
        · have : inI i 0 (l.length - 1) = false := by unfold inI; simp; omega
          exact ⟨f, 2, hf, by simp [this], by simp [hr, knU_length]⟩
        · have : inI i 0 (l.length - 1) = true := by unfold inI; simp; omega
          have hi : i.toNat < l.length := by omega
          obtain ⟨e1, e2, l1, l2⟩ := sent_lst h hi
          have hg := knU_get hi
          by_cases hs : sub (knAt l i.toNat).1 f = true
          · refine ⟨f ||| (knAt l i.toNat).2.1, 0, or_lt hf l2, ?_, ?_⟩
            · simp [this, e1, e2, part_lst (show (knAt l i.toNat).1 < 256 by omega), hs, joined_lst hn.2 hf l2]
            · simp only [knU_length, hr, hg, hs]; simp
          · have hs : sub (knAt l i.toNat).1 f = false := by simpa using hs
            refine ⟨f, 12, hf, ?_, ?_⟩
            · simp [this, e1, part_lst (show (knAt l i.toNat).1 < 256 by omega), hs]
            · simp only [knU_length, hr, hg, hs]; simp
      · exact ⟨f, e, hf, by simp [he], by simp [he]⟩
    obtain ⟨g, e', hg, k1, k2⟩ := key
    rw [k1, k2]
    exact goes_fold h r g e' hg
theorem goTop_eq (n : Int) (l : Bk) (set steps : List Int) : goTop n l set steps = goesTop n l set steps := by
  unfold goTop goesTop goesR
  by_cases h : asked n l set = 0
  · have hc := (asked_ok h).1
    have hl := (asked_ok h).2
    have hn := check_range hc
    have e0 : lst (maskOf set) = set := lst_maskOf hn.2 hl
    have := goes_fold hc steps (maskOf set) 0 (maskOf_lt hl)
    rw [e0] at this
    rw [h, this, openedM_ok hc]
    simp only [askedM, h, goM]
    simp
  · rw [goesR_err _ _ _ _ h]
    simp [h]
end Go.V.R6
