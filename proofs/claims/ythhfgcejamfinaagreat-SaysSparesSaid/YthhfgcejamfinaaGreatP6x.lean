/-
  Shortest steps: the program's search and the reference's agree; so do steps carried out. Conditions: none.
  Shortest steps: the program's search finds what the reference finds. Conditions: none.
  Plain models of the chapter's reference: closed sets, what follows, all sets. Conditions: none.
-/
import Derived.Test.YthhfgcejamfinaaGreatP6v
set_option linter.unusedVariables false
set_option linter.unusedSimpArgs false
set_option linter.deprecated false
namespace Go.V.R6

/-! ### lists as numbers -/
theorem sorted_ext : ∀ {a b : List Int}, a.Pairwise (· < ·) → b.Pairwise (· < ·) → (∀ x, x ∈ a ↔ x ∈ b) → a = b
  | [], [], _, _, _ => rfl
  | [], y :: b, _, _, h => by have := (h y).2 (by simp); simp at this
  | x :: a, [], _, _, h => by have := (h x).1 (by simp); simp at this
  | x :: a, y :: b, ha, hb, h => by
    rw [List.pairwise_cons] at ha hb
    have hxy : x = y := by
      have h1 := (h x).1 (by simp)
      have h2 := (h y).2 (by simp)
      rcases List.mem_cons.1 h1 with e | e
      · exact e
      · rcases List.mem_cons.1 h2 with e' | e'
        · exact e'.symm
        · have := hb.1 x e; have := ha.1 y e'; omega
    subst hxy
    rw [sorted_ext ha.2 hb.2 (fun z => ?_)]
    constructor
    · intro hz
      have := (h z).1 (by simp [hz])
      rcases List.mem_cons.1 this with e | e
      · subst e; have := ha.1 z hz; omega
      · exact e
    · intro hz
      have := (h z).2 (by simp [hz])
      rcases List.mem_cons.1 this with e | e
      · subst e; have := hb.1 z hz; omega
      · exact e
theorem range_sorted (k : Nat) : ((List.range k).map Int.ofNat).Pairwise (· < ·) := by
  rw [List.pairwise_map]
  exact List.pairwise_lt_range.imp (fun h => by simp; omega)
theorem lst_sorted (m : Nat) : (lst m).Pairwise (· < ·) := by
  unfold lst
  rw [List.pairwise_map]
  refine List.Pairwise.filter _ ?_
  exact List.pairwise_lt_range.imp (fun h => by simp; omega)
theorem fold_bit : ∀ (l : List Int) (o i : Nat), (l.foldl (fun o x => o ||| 2 ^ x.toNat) o).testBit i = true ↔ o.testBit i = true ∨ ∃ x ∈ l, x.toNat = i
  | [], o, i => by simp
  | x :: l, o, i => by
    rw [List.foldl_cons, fold_bit l, Nat.testBit_or, Nat.testBit_two_pow]
    simp only [Bool.or_eq_true, decide_eq_true_eq, List.mem_cons, exists_eq_or_imp, or_assoc]
theorem maskOf_bit {l : List Int} {i : Nat} : (maskOf l).testBit i = true ↔ ∃ x ∈ l, x.toNat = i := by
  unfold maskOf; rw [fold_bit]; simp
theorem readErr_sorted (n : Int) : ∀ (l : List Int) (last : Int), readErr n l last = 0 → (∀ x ∈ l, 0 ≤ x ∧ x < n ∧ last < x) ∧ l.Pairwise (· < ·)
  | [], _, _ => by simp
  | x :: r, last, h => by
    rw [readErr_cons] at h
    split at h
    · cases h
    · split at h
      · cases h
      · obtain ⟨h1, h2⟩ := readErr_sorted n r x h
        refine ⟨fun y hy => ?_, List.pairwise_cons.2 ⟨fun y hy => (h1 y hy).2.2, h2⟩⟩
        rcases List.mem_cons.1 hy with e | e
        · subst e; omega
        · have := h1 y e; omega
theorem listed_range {n : Int} {l : List Int} (h : listed l n = 0) : (∀ x ∈ l, 0 ≤ x ∧ x < n) ∧ l.Pairwise (· < ·) := by
  rw [listed_eq] at h
  obtain ⟨h1, h2⟩ := readErr_sorted n l (-1) h
  exact ⟨fun x hx => ⟨(h1 x hx).1, (h1 x hx).2.1⟩, h2⟩
theorem lst_maskOf {n : Int} {l : List Int} (hn : n ≤ 6) (h : listed l n = 0) : lst (maskOf l) = l := by
  obtain ⟨h1, h2⟩ := listed_range h
  refine sorted_ext (lst_sorted _) h2 fun x => ?_
  rw [lst_mem]
  constructor
  · rintro ⟨i, _, hi, rfl⟩
    obtain ⟨y, hy, e⟩ := maskOf_bit.1 hi
    have := h1 y hy
    have : y = (i : Int) := by omega
    exact this ▸ hy
  · intro hx
    have := h1 x hx
    exact ⟨x.toNat, by omega, maskOf_bit.2 ⟨x, hx, rfl⟩, by omega⟩
theorem lst_contains {m : Nat} {x : Int} (h0 : 0 ≤ x) (h8 : x < 8) : (lst m).contains x = m.testBit x.toNat := by
  rw [Bool.eq_iff_iff, List.contains_iff_mem, lst_mem]
  constructor
  · rintro ⟨i, _, hi, rfl⟩; simpa using hi
  · intro h; exact ⟨x.toNat, by omega, h, by omega⟩
theorem part_lst {a b : Nat} (ha : a < 256) : part (lst a) (lst b) = sub a b := by
  rw [Bool.eq_iff_iff, sub_iff]
  unfold part
  rw [List.all_eq_true]
  constructor
  · intro h i hi
    have h8 : i < 8 := testBit_lt (n := 8) ha hi
    have := h (i : Int) (lst_mem.2 ⟨i, h8, hi, rfl⟩)
    rw [lst_contains (by omega) (by omega)] at this
    simpa using this
  · intro h x hx
    obtain ⟨i, h8, hi, rfl⟩ := lst_mem.1 hx
    rw [lst_contains (by omega) (by omega)]
    simpa using h i hi
theorem joined_lst {n : Int} {a b : Nat} (hn : n ≤ 6) (ha : a < 2 ^ n.toNat) (hb : b < 2 ^ n.toNat) : joined n (lst a) (lst b) = lst (a ||| b) := by
  refine sorted_ext ?_ (lst_sorted _) fun x => ?_
  · unfold joined joinedUpto
    exact List.Pairwise.filter _ (range_sorted _)
  · unfold joined joinedUpto
    rw [List.mem_filter, List.mem_map, lst_mem, Bool.or_eq_true]
    constructor
    · rintro ⟨⟨i, hi, rfl⟩, h⟩
      have hi := List.mem_range.1 hi
      refine ⟨i, by omega, ?_, rfl⟩
      rw [show (Int.ofNat i) = (i : Int) from rfl, lst_contains (by omega) (by omega), lst_contains (by omega) (by omega)] at h
      rw [Nat.testBit_or, Bool.or_eq_true]
      simpa using h
    · rintro ⟨i, h8, hi, rfl⟩
      rw [lst_contains (by omega) (by omega), lst_contains (by omega) (by omega)]
      rw [Nat.testBit_or, Bool.or_eq_true] at hi
      refine ⟨⟨i, List.mem_range.2 ?_, rfl⟩, by simpa using hi⟩
      rcases hi with hi | hi
      · exact testBit_lt ha hi
      · exact testBit_lt hb hi

/-! ### sentences of a checked book -/
theorem knU_get {l : Bk} {i : Nat} (hi : i < l.length) : (knU l l.length).getD i (0, 0, 0) = knAt l i := by
  unfold knU
  rw [List.getD_eq_getElem?_getD, List.getElem?_map, List.getElem?_range hi]; rfl
theorem sent_lst {n : Int} {l : Bk} (h : check n l = 0) {i : Nat} (hi : i < l.length) : (sAt l i).1 = lst (knAt l i).1 ∧ (sAt l i).2 = lst (knAt l i).2.1 ∧ (knAt l i).1 < 2 ^ n.toNat ∧ (knAt l i).2.1 < 2 ^ n.toNat := by
  have hn := check_range h
  obtain ⟨h1, h2⟩ := check_at h hi
  exact ⟨(lst_maskOf hn.2 h1).symm, (lst_maskOf hn.2 h2).symm, maskOf_lt h1, maskOf_lt h2⟩
theorem or_lt {n : Int} {a b : Nat} (ha : a < 2 ^ n.toNat) (hb : b < 2 ^ n.toNat) : a ||| b < 2 ^ n.toNat := Nat.or_lt_two_pow ha hb

/-! ### steps carried out -/
theorem goes_fold {n : Int} {l : Bk} (h : check n l = 0) : ∀ (steps : List Int) (f : Nat) (e : Int), f < 2 ^ n.toNat →
    steps.foldl (goesStep n l) (lst f, e) = (lst (steps.foldl (goStep (knU l l.length)) (f, e)).1, (steps.foldl (goStep (knU l l.length)) (f, e)).2)
  | [], f, e, _ => rfl
  | i :: r, f, e, hf => by
    have hn := check_range h
    have h6 := pow_le64 hn.2
    rw [List.foldl_cons, List.foldl_cons]
    have key : ∃ g e', g < 2 ^ n.toNat ∧ goesStep n l (lst f, e) i = (lst g, e') ∧ goStep (knU l l.length) (f, e) i = (g, e') := by
      unfold goesStep goStep
      by_cases he : e = 0
      · subst he
        by_cases hr : i < 0 ∨ (l.length : Int) ≤ i
        · have : inI i 0 (l.length - 1) = false := by unfold inI; simp; omega
          exact ⟨f, 2, hf, by simp [this], by simp [hr, knU_length]⟩
        · have : inI i 0 (l.length - 1) = true := by unfold inI; simp; omega
          have hi : i.toNat < l.length := by omega
          obtain ⟨e1, e2, l1, l2⟩ := sent_lst h hi
          have hg := knU_get hi
          by_cases hs : sub (knAt l i.toNat).1 f = true
          · refine ⟨f ||| (knAt l i.toNat).2.1, 0, or_lt hf l2, ?_, ?_⟩
            · simp [this, e1, e2, part_lst (show (knAt l i.toNat).1 < 256 by omega), hs, joined_lst hn.2 hf l2]
            · simp only [knU_length, hr, hg, hs]; simp
          · have hs : sub (knAt l i.toNat).1 f = false := by simpa using hs
            refine ⟨f, 12, hf, ?_, ?_⟩
            · simp [this, e1, part_lst (show (knAt l i.toNat).1 < 256 by omega), hs]
            · simp only [knU_length, hr, hg, hs]; simp
      · exact ⟨f, e, hf, by simp [he], by simp [he]⟩
    obtain ⟨g, e', hg, k1, k2⟩ := key
    rw [k1, k2]
    exact goes_fold h r g e' hg
theorem goTop_eq (n : Int) (l : Bk) (set steps : List Int) : goTop n l set steps = goesTop n l set steps := by
  unfold goTop goesTop goesR
  by_cases h : asked n l set = 0
  · have hc := (asked_ok h).1
    have hl := (asked_ok h).2
    have hn := check_range hc
    have e0 : lst (maskOf set) = set := lst_maskOf hn.2 hl
    have := goes_fold hc steps (maskOf set) 0 (maskOf_lt hl)
    rw [e0] at this
    rw [h, this, openedM_ok hc]
    simp only [askedM, h, goM]
    simp
  · rw [goesR_err _ _ _ _ h]
    simp [h]
end Go.V.R6

namespace Go.V.R6

/-! ### steps as numbers: shorter ones first, then smaller ones -/
def cod (c : Int) (p : List Int) : Int := p.foldl (fun c i => 8 * c + i + 1) c
def Dg (p : List Int) : Prop := ∀ i ∈ p, 0 ≤ i ∧ i < 8
theorem cod_cons (c i : Int) (p : List Int) : cod c (i :: p) = cod (8 * c + i + 1) p := rfl
theorem cod_snoc (c i : Int) (p : List Int) : cod c (p ++ [i]) = 8 * cod c p + i + 1 := by unfold cod; rw [List.foldl_append]; rfl
theorem pow8_pos (m : Nat) : (0 : Int) < 8 ^ m := Int.pow_pos (by omega)
theorem cod_lo : ∀ (p : List Int) (c : Int), Dg p → 8 ^ p.length * (7 * c + 1) ≤ 7 * cod c p + 1
  | [], c, _ => by simp [cod]
  | i :: p, c, h => by
    have hi := h i (by simp)
    have ih := cod_lo p (8 * c + i + 1) (fun j hj => h j (by simp [hj]))
    rw [cod_cons, List.length_cons, Int.pow_succ]
    refine Int.le_trans ?_ ih
    rw [Int.mul_assoc]
    exact Int.mul_le_mul_of_nonneg_left (by omega) (Int.le_of_lt (pow8_pos _))
theorem cod_hi : ∀ (p : List Int) (c : Int), Dg p → 7 * cod c p + 8 ≤ 8 ^ p.length * (7 * c + 8)
  | [], c, _ => by simp [cod]
  | i :: p, c, h => by
    have hi := h i (by simp)
    have ih := cod_hi p (8 * c + i + 1) (fun j hj => h j (by simp [hj]))
    rw [cod_cons, List.length_cons, Int.pow_succ]
    refine Int.le_trans ih ?_
    rw [Int.mul_assoc]
    exact Int.mul_le_mul_of_nonneg_left (by omega) (Int.le_of_lt (pow8_pos _))
theorem cod_lt {p q : List Int} {c d : Int} (hp : Dg p) (hq : Dg q) (hl : p.length = q.length) (h : c < d) : cod c p < cod d q := by
  have h1 := cod_hi p c hp
  have h2 := cod_lo q d hq
  rw [← hl] at h2
  have h3 : (8 : Int) ^ p.length * (7 * c + 8) ≤ 8 ^ p.length * (7 * d + 1) := Int.mul_le_mul_of_nonneg_left (by omega) (Int.le_of_lt (pow8_pos _))
  omega
theorem pow8_mono {a b : Nat} (h : a ≤ b) : (8 : Int) ^ a ≤ 8 ^ b := by
  obtain ⟨k, rfl⟩ : ∃ k, b = a + k := ⟨b - a, by omega⟩
  rw [Int.pow_add]
  have := pow8_pos k
  have h2 := Int.mul_le_mul_of_nonneg_left (show (1 : Int) ≤ 8 ^ k by omega) (Int.le_of_lt (pow8_pos a))
  omega
theorem cod_short {p q : List Int} (hp : Dg p) (hq : Dg q) (h : p.length < q.length) : cod 0 p < cod 0 q := by
  have h1 := cod_hi p 0 hp
  have h2 := cod_lo q 0 hq
  have h3 := pow8_mono (show p.length + 1 ≤ q.length from h)
  rw [Int.pow_succ] at h3
  omega
theorem cod_inj' : ∀ {p q : List Int} {c : Int}, Dg p → Dg q → p.length = q.length → cod c p = cod c q → p = q
  | [], [], _, _, _, _, _ => rfl
  | [], _ :: _, _, _, _, h, _ => by simp at h
  | _ :: _, [], _, _, _, h, _ => by simp at h
  | i :: p, j :: q, c, hp, hq, hl, h => by
    have hp' : Dg p := fun x hx => hp x (by simp [hx])
    have hq' : Dg q := fun x hx => hq x (by simp [hx])
    have hl' : p.length = q.length := by simpa using hl
    rw [cod_cons, cod_cons] at h
    rcases Int.lt_trichotomy i j with e | e | e
    · have := cod_lt hp' hq' hl' (show 8 * c + i + 1 < 8 * c + j + 1 by omega); omega
    · subst e; rw [cod_inj' hp' hq' hl' h]
    · have := cod_lt hq' hp' hl'.symm (show 8 * c + j + 1 < 8 * c + i + 1 by omega); omega
theorem cod_inj {p q : List Int} (hp : Dg p) (hq : Dg q) (h : cod 0 p = cod 0 q) : p = q := by
  rcases Nat.lt_trichotomy p.length q.length with e | e | e
  · have := cod_short hp hq e; omega
  · exact cod_inj' hp hq e h
  · have := cod_short hq hp e; omega

/-! ### steps that can be carried out -/
abbrev kn (ks : List Kn) (i : Int) : Kn := ks.getD i.toNat (0, 0, 0)
def endS (ks : List Kn) (s : Nat) (p : List Int) : Nat := p.foldl (fun s i => s ||| (kn ks i).2.1) s
def valS (ks : List Kn) : Nat → List Int → Prop
  | _, [] => True
  | s, i :: p => (0 ≤ i ∧ i < ks.length) ∧ sub (kn ks i).1 s = true ∧ valS ks (s ||| (kn ks i).2.1) p
def strS (ks : List Kn) : Nat → List Int → Prop
  | _, [] => True
  | s, i :: p => sub (kn ks i).2.1 s = false ∧ strS ks (s ||| (kn ks i).2.1) p
theorem endS_cons (ks : List Kn) (s : Nat) (i : Int) (p : List Int) : endS ks s (i :: p) = endS ks (s ||| (kn ks i).2.1) p := rfl
theorem endS_snoc (ks : List Kn) (s : Nat) (i : Int) (p : List Int) : endS ks s (p ++ [i]) = endS ks s p ||| (kn ks i).2.1 := by unfold endS; rw [List.foldl_append]; rfl
theorem valS_snoc {ks : List Kn} {i : Int} : ∀ {p : List Int} {s : Nat}, valS ks s (p ++ [i]) ↔ valS ks s p ∧ (0 ≤ i ∧ i < ks.length) ∧ sub (kn ks i).1 (endS ks s p) = true
  | [], s => by simp [valS, endS]
  | j :: p, s => by
    rw [List.cons_append, valS, valS, valS_snoc, endS_cons]
    simp only [and_assoc]
theorem valS_dg {ks : List Kn} (h8 : ks.length ≤ 8) : ∀ {p : List Int} {s : Nat}, valS ks s p → Dg p
  | [], _, _ => by intro i hi; simp at hi
  | j :: p, s, h => by
    rw [valS] at h
    intro i hi
    rcases List.mem_cons.1 hi with e | e
    · subst e; omega
    · exact valS_dg h8 h.2.2 i e
theorem strict_of {ks : List Kn} : ∀ (q : List Int) (s : Nat), valS ks s q → ∃ q', valS ks s q' ∧ strS ks s q' ∧ endS ks s q' = endS ks s q ∧ (q' = q ∨ q'.length < q.length)
  | [], s, _ => ⟨[], trivial, trivial, rfl, .inl rfl⟩
  | i :: p, s, h => by
    rw [valS] at h
    obtain ⟨q', h1, h2, h3, h4⟩ := strict_of p _ h.2.2
    by_cases hs : sub (kn ks i).2.1 s = true
    · have e := or_eq_of_sub hs
      rw [e] at h1 h2 h3
      refine ⟨q', h1, h2, ?_, .inr ?_⟩
      · rw [endS_cons, e]; exact h3
      · rcases h4 with h4 | h4
        · subst h4; simp
        · simp; omega
    · refine ⟨i :: q', ⟨h.1, h.2.1, h1⟩, ⟨by simpa using hs, h2⟩, by rw [endS_cons, endS_cons, h3], ?_⟩
      rcases h4 with h4 | h4
      · subst h4; exact .inl rfl
      · exact .inr (by simpa using h4)
theorem oc8_grow : ∀ a < 64, ∀ b < 64, sub b a = false → oc8 a < oc8 (a ||| b) := by decide +kernel
theorem oc8_bound : ∀ n ≤ 6, ∀ a < 2 ^ n, oc8 a ≤ n := by decide +kernel
theorem strict_len {ks : List Kn} {n : Nat} (hn : n ≤ 6) (hk : ∀ k ∈ ks, k.1 < 2 ^ n ∧ k.2.1 < 2 ^ n) : ∀ (q : List Int) (s : Nat), s < 2 ^ n → valS ks s q → strS ks s q → q.length + oc8 s ≤ n
  | [], s, hs, _, _ => by simpa using oc8_bound n hn s hs
  | i :: p, s, hs, hv, ht => by
    rw [valS] at hv
    rw [strS] at ht
    have hi : i.toNat < ks.length := by omega
    have h2 : (kn ks i).2.1 < 2 ^ n := by
      have := hk ks[i.toNat] (List.getElem_mem _)
      simp only [kn, List.getD_eq_getElem?_getD, List.getElem?_eq_getElem hi, Option.getD_some]
      exact this.2
    have h64 : 2 ^ n ≤ 64 := Nat.le_trans (Nat.pow_le_pow_right (by omega) hn) (by decide)
    have := strict_len hn hk p _ (Nat.or_lt_two_pow hs h2) hv.2.2 ht.2
    have := oc8_grow s (by omega) _ (show (kn ks i).2.1 < 64 by omega) ht.1
    simp; omega
/-- the first steps to a fact -/
def Best (ks : List Kn) (fact s : Nat) (p : List Int) : Prop := valS ks s p ∧ (endS ks s p).testBit fact = true ∧ ∀ q, valS ks s q → (endS ks s q).testBit fact = true → cod 0 p ≤ cod 0 q
theorem Best.unique {ks : List Kn} (h8 : ks.length ≤ 8) {fact s : Nat} {p q : List Int} (hp : Best ks fact s p) (hq : Best ks fact s q) : p = q := by
  have h1 := hp.2.2 q hq.1 hq.2.1
  have h2 := hq.2.2 p hp.1 hp.2.1
  exact cod_inj (valS_dg h8 hp.1) (valS_dg h8 hq.1) (by omega)

/-! ### the reference's way: so many steps, tried in order -/
def idsAt (ks : List Kn) (r : Nat → Option (List Int)) (s i : Nat) : Option (List Int) :=
  if sub (kn ks i).1 s = true ∧ sub (kn ks i).2.1 s = false then (r (s ||| (kn ks i).2.1)).map ((i : Int) :: ·) else none
def ids (ks : List Kn) (fact : Nat) : Nat → Nat → Option (List Int)
  | 0, s => if s.testBit fact = true then some [] else none
  | m + 1, s => (List.range ks.length).findSome? (idsAt ks (ids ks fact m) s)
theorem findSome_congr {α β : Type} {f g : α → Option β} : ∀ {l : List α}, (∀ x ∈ l, f x = g x) → l.findSome? f = l.findSome? g
  | [], _ => rfl
  | x :: l, h => by
    rw [List.findSome?_cons, List.findSome?_cons, h x (by simp), findSome_congr (fun y hy => h y (by simp [hy]))]
theorem findSome_map {α β γ : Type} (g : α → Option β) (h : β → γ) : ∀ (l : List α), l.findSome? (fun x => (g x).map h) = (l.findSome? g).map h
  | [] => rfl
  | x :: l => by
    rw [List.findSome?_cons, List.findSome?_cons, findSome_map g h l]
    cases g x <;> rfl
theorem findSome_first {β : Type} {f : Nat → Option β} : ∀ {n : Nat} {b : β}, (List.range n).findSome? f = some b → ∃ k, k < n ∧ f k = some b ∧ ∀ j, j < k → f j = none
  | 0, b, h => by simp at h
  | n + 1, b, h => by
    rw [List.range_succ, List.findSome?_append] at h
    cases h1 : (List.range n).findSome? f with
    | some c =>
      rw [h1] at h
      obtain ⟨k, h2, h3, h4⟩ := findSome_first h1
      simp at h
      subst h
      exact ⟨k, by omega, h3, h4⟩
    | none =>
      rw [h1] at h
      rw [List.findSome?_eq_none_iff] at h1
      refine ⟨n, by omega, ?_, fun j hj => h1 j (List.mem_range.2 hj)⟩
      rw [List.findSome?_cons] at h
      cases hf : f n with
      | none => rw [hf] at h; simp at h
      | some c => rw [hf] at h; simpa using h
theorem stepsR_ids {n : Int} {l : Bk} (h : check n l = 0) {fact : Int} (h0 : 0 ≤ fact) (h8 : fact < n) : ∀ (m s : Nat) (begun : List Int), s < 2 ^ n.toNat →
    ((stepsR n l fact m (lst s) begun).2 = (ids (knU l l.length) fact.toNat m s).isSome) ∧ ∀ q, ids (knU l l.length) fact.toNat m s = some q → (stepsR n l fact m (lst s) begun).1 = begun ++ q
  | 0, s, begun, hs => by
    have hn := check_range h
    unfold stepsR ids
    rw [lst_contains h0 (by omega)]
    by_cases hb : s.testBit fact.toNat = true
    · simp [hb]
    · simp [hb]
  | m + 1, s, begun, hs => by
    have hn := check_range h
    have h6 := pow_le64 hn.2
    have key : (List.range l.length).findSome? (stepAt n l fact m (lst s) begun) = (ids (knU l l.length) fact.toNat (m + 1) s).map (begun ++ ·) := by
      unfold ids
      rw [knU_length, ← findSome_map]
      refine findSome_congr fun i hi => ?_
      have hi := List.mem_range.1 hi
      obtain ⟨e1, e2, l1, l2⟩ := sent_lst h hi
      have hg : kn (knU l l.length) (i : Int) = knAt l i := by simpa using knU_get hi
      unfold stepAt idsAt
      rw [hg, e1, e2, part_lst (show (knAt l i).1 < 256 by omega), part_lst (show (knAt l i).2.1 < 256 by omega), joined_lst hn.2 hs l2]
      obtain ⟨ih1, ih2⟩ := stepsR_ids h h0 h8 m (s ||| (knAt l i).2.1) (begun ++ [(i : Int)]) (or_lt hs l2)
      by_cases hc : sub (knAt l i).1 s = true ∧ sub (knAt l i).2.1 s = false
      · rw [if_pos hc, if_pos hc, ih1]
        cases hq : ids (knU l l.length) fact.toNat m (s ||| (knAt l i).2.1) with
        | none => simp
        | some q => simp [ih2 q hq]
      · rw [if_neg hc, if_neg hc]; rfl
    unfold stepAt at key
    unfold stepsR
    rw [key]
    cases hq : ids (knU l l.length) fact.toNat (m + 1) s with
    | none => simp
    | some q => simp
theorem ids_none {ks : List Kn} (h8 : ks.length ≤ 8) {fact : Nat} : ∀ (m s : Nat), ids ks fact m s = none → ∀ q', valS ks s q' → strS ks s q' → q'.length = m → ¬ (endS ks s q').testBit fact = true
  | 0, s, h, q', _, _, hl, hb => by
    obtain rfl : q' = [] := by simpa using hl
    unfold ids at h
    rw [if_pos (show s.testBit fact = true from hb)] at h
    cases h
  | m + 1, s, h, q', hv, hs, hl, hb => by
    cases q' with
    | nil => simp at hl
    | cons j r =>
      rw [valS] at hv
      rw [strS] at hs
      rw [endS_cons] at hb
      have hl : r.length = m := by simpa using hl
      unfold ids at h
      rw [List.findSome?_eq_none_iff] at h
      have := h j.toNat (List.mem_range.2 (by omega))
      unfold idsAt at this
      have ej : ((j.toNat : Nat) : Int) = j := by omega
      rw [ej, if_pos ⟨hv.2.1, hs.1⟩] at this
      exact ids_none h8 m _ (by simpa using this) r hv.2.2 hs.2 hl hb
theorem ids_some {ks : List Kn} (h8 : ks.length ≤ 8) {fact : Nat} : ∀ (m s : Nat) (q : List Int), ids ks fact m s = some q →
    valS ks s q ∧ q.length = m ∧ (endS ks s q).testBit fact = true ∧ ∀ q', valS ks s q' → strS ks s q' → q'.length = m → (endS ks s q').testBit fact = true → ∀ c, cod c q ≤ cod c q'
  | 0, s, q, h => by
    unfold ids at h
    split at h
    · rename_i hb
      simp at h; subst h
      refine ⟨trivial, rfl, hb, fun q' _ _ hl _ c => ?_⟩
      obtain rfl : q' = [] := by simpa using hl
      omega
    · cases h
  | m + 1, s, q, h => by
    unfold ids at h
    obtain ⟨k, hk, hf, hn⟩ := findSome_first h
    unfold idsAt at hf
    split at hf
    · rename_i hc
      cases ht : ids ks fact m (s ||| (kn ks k).2.1) with
      | none => rw [ht] at hf; cases hf
      | some t =>
        rw [ht] at hf
        simp at hf
        subst hf
        obtain ⟨i1, i2, i3, i4⟩ := ids_some h8 m _ t ht
        refine ⟨⟨by omega, hc.1, i1⟩, by simp [i2], by rw [endS_cons]; exact i3, fun q' hv hs hl hb c => ?_⟩
        cases q' with
        | nil => simp at hl
        | cons j r =>
          rw [valS] at hv
          rw [strS] at hs
          rw [endS_cons] at hb
          have hl : r.length = m := by simpa using hl
          rw [cod_cons, cod_cons]
          have hr := valS_dg h8 hv.2.2
          have htd := valS_dg h8 i1
          rcases Int.lt_trichotomy j k with e | e | e
          · exfalso
            have := hn j.toNat (by omega)
            unfold idsAt at this
            have ej : ((j.toNat : Nat) : Int) = j := by omega
            rw [ej, if_pos ⟨hv.2.1, hs.1⟩] at this
            have hnone := ids_none h8 m _ (by simpa using this) r hv.2.2 hs.2 hl
            exact hnone hb
          · subst e
            have hl' : r.length = m := by simpa using hl
            exact i4 r hv.2.2 hs.2 hl' hb _
          · exact Int.le_of_lt (cod_lt htd hr (by omega) (by omega))
    · cases hf
/-- the first number of steps with which there are any -/
def idsTop (ks : List Kn) (fact n s : Nat) : Option (List Int) := (List.range (n + 1)).findSome? (fun m => ids ks fact m s)
theorem idsTop_best {ks : List Kn} (h8 : ks.length ≤ 8) {fact n s : Nat} {p : List Int} (h : idsTop ks fact n s = some p) : Best ks fact s p := by
  obtain ⟨m, _, hm, hn⟩ := findSome_first h
  obtain ⟨h1, h2, h3, h4⟩ := ids_some h8 m s p hm
  refine ⟨h1, h3, fun q hv hb => ?_⟩
  obtain ⟨q', v', s', e', l'⟩ := strict_of q s hv
  rw [← e'] at hb
  have hge : m ≤ q'.length := by
    rcases Nat.lt_or_ge q'.length m with hlt | hge
    · exact absurd hb (ids_none h8 _ s (hn _ hlt) q' v' s' rfl)
    · exact hge
  have hpd := valS_dg h8 h1
  have hqd := valS_dg h8 hv
  rcases Nat.lt_or_ge p.length q.length with hlt | hle
  · exact Int.le_of_lt (cod_short hpd hqd hlt)
  · rcases l' with l' | l'
    · subst l'
      exact h4 q' v' s' (by omega) hb 0
    · omega
theorem idsTop_none {ks : List Kn} (h8 : ks.length ≤ 8) {fact n s : Nat} (hn : n ≤ 6) (hk : ∀ k ∈ ks, k.1 < 2 ^ n ∧ k.2.1 < 2 ^ n) (hs : s < 2 ^ n) (h : idsTop ks fact n s = none) (q : List Int) (hv : valS ks s q) : ¬ (endS ks s q).testBit fact = true := by
  obtain ⟨q', v', s', e', l'⟩ := strict_of q s hv
  rw [← e']
  have hl := strict_len hn hk q' s hs v' s'
  unfold idsTop at h
  rw [List.findSome?_eq_none_iff] at h
  exact ids_none h8 _ s (h q'.length (List.mem_range.2 (by omega))) q' v' s' rfl
end Go.V.R6

namespace Go.V.R6
def closedR (l : Bk) (set : List Int) : Bool := l.all fun s => !(part s.1 set) || part s.2 set
theorem closedR_take {l : Bk} {set : List Int} {k : Nat} {x : List Int × List Int} (h : closedR (l.take k) set = true) (hx : l[k]? = some x) (hc : part x.1 set = false ∨ part x.2 set = true) : closedR (l.take (k + 1)) set = true := by
  rw [take_succ_of hx]; unfold closedR at *; rw [List.all_append, h]
  rcases hc with hc | hc <;> simp [hc]
theorem closedR_false {l : Bk} {set : List Int} {k : Nat} {x : List Int × List Int} (hx : l[k]? = some x) (h1 : part x.1 set = true) (h2 : part x.2 set = false) : closedR l set = false := by
  unfold closedR; rw [List.all_eq_false]; exact ⟨x, List.mem_of_getElem? hx, by simp [h1, h2]⟩
def fromR (b : List Int) : Int := if 0 < b.length then b.getD (b.length - 1) 0 + 1 else 0
theorem fromR_snoc (b : List Int) (i : Int) : fromR (b ++ [i]) = i + 1 := by simp [fromR]
def setsR : Nat → Int → List Int → List (List Int)
  | 0, _, b => [b]
  | f + 1, n, b => b :: (List.range (n - fromR b).toNat).flatMap fun (j : Nat) => setsR f n (b ++ [fromR b + (j : Int)])
theorem flatMap_congr' {α β : Type} {f g : α → List β} : ∀ {l : List α}, (∀ x ∈ l, f x = g x) → l.flatMap f = l.flatMap g
  | [], _ => rfl
  | x :: l, h => by rw [List.flatMap_cons, List.flatMap_cons, h x (by simp), flatMap_congr' fun y hy => h y (by simp [hy])]
theorem setsR_fuel (n : Int) : ∀ (f : Nat) (b : List Int), (n - fromR b).toNat ≤ f → setsR (f + 1) n b = setsR f n b
  | 0, b, h => by
    have : (n - fromR b).toNat = 0 := by omega
    simp [setsR, this]
  | f + 1, b, h => by
    conv => lhs; rw [setsR]
    conv => rhs; rw [setsR]
    rw [flatMap_congr' fun j hj => ?_]
    have := List.mem_range.1 hj
    exact setsR_fuel n f _ (by rw [fromR_snoc]; omega)
/-- the first ones of the sets that begin with some -/
def setsK (n : Int) (b : List Int) (k : Nat) : List (List Int) := b :: (List.range k).flatMap fun (j : Nat) => setsR 6 n (b ++ [fromR b + (j : Int)])
theorem setsK_zero (n : Int) (b : List Int) : setsK n b 0 = [b] := by simp [setsK]
theorem setsK_succ (n : Int) (b : List Int) (k : Nat) : setsK n b (k + 1) = setsK n b k ++ setsR 6 n (b ++ [fromR b + (k : Int)]) := by
  unfold setsK; rw [List.range_succ, List.flatMap_append]; simp
theorem setsK_all {n : Int} {b : List Int} (hn : n ≤ 6) (hb : 0 ≤ fromR b) : setsK n b (n - fromR b).toNat = setsR 6 n b := by
  rw [← setsR_fuel n 6 b (by omega)]; rfl
theorem flatMap_length_le {α β : Type} {f : α → List β} {m : Nat} : ∀ {l : List α}, (∀ x ∈ l, (f x).length ≤ m) → (l.flatMap f).length ≤ l.length * m
  | [], _ => by simp
  | x :: l, h => by
    rw [List.flatMap_cons, List.length_append, List.length_cons, Nat.succ_mul]
    have := h x (by simp)
    have := flatMap_length_le (m := m) fun y hy => h y (List.mem_cons_of_mem x hy)
    omega
theorem setsR_length {n : Int} (hn : n ≤ 6) : ∀ (f : Nat) (b : List Int), 0 ≤ fromR b → (setsR f n b).length ≤ 7 ^ f
  | 0, b, _ => by simp [setsR]
  | f + 1, b, hb => by
    rw [setsR, List.length_cons]
    have h := flatMap_length_le (f := fun j : Nat => setsR f n (b ++ [fromR b + (j : Int)])) (m := 7 ^ f) (l := List.range (n - fromR b).toNat) fun j _ => setsR_length hn f _ (by rw [fromR_snoc]; omega)
    rw [List.length_range] at h
    have h2 : (n - fromR b).toNat * 7 ^ f ≤ 6 * 7 ^ f := Nat.mul_le_mul_right _ (by omega)
    have h3 : 0 < 7 ^ f := Nat.pow_pos (by omega)
    rw [Nat.pow_succ]; omega
theorem setsK_length {n : Int} (hn : n ≤ 6) {b : List Int} (hb : 0 ≤ fromR b) {k : Nat} (hk : k ≤ 6) : (setsK n b k).length ≤ 1000000 := by
  unfold setsK
  rw [List.length_cons]
  have h := flatMap_length_le (f := fun j : Nat => setsR 6 n (b ++ [fromR b + (j : Int)])) (m := 7 ^ 6) (l := List.range k) fun j _ => setsR_length hn 6 _ (by rw [fromR_snoc]; omega)
  rw [List.length_range] at h
  omega
/-- all sets of so many facts -/
def setsA (n : Int) : List (List Int) := setsR 6 n []
def allR (n : Int) (l : Bk) : List (List Int) := (setsA n).filter (closedR l)
def followsUpto (n : Int) (l : Bk) (set : List Int) (k : Nat) : List Int := ((List.range k).map Int.ofNat).filter fun i => (allR n l).all fun c => !(part set c) || c.contains i
def followsR (n : Int) (l : Bk) (set : List Int) : List Int := followsUpto n l set n.toNat
theorem setsR_row {n : Int} (hn : n ≤ 6) : ∀ (f : Nat) (b : List Int), b.length ≤ fromR b → fromR b ≤ 6 → ∀ r ∈ setsR f n b, r.length ≤ 6
  | 0, b, h1, h2, r, hr => by
    simp [setsR] at hr; subst hr; omega
  | f + 1, b, h1, h2, r, hr => by
    rw [setsR] at hr
    rcases List.mem_cons.1 hr with e | e
    · subst e; omega
    · obtain ⟨j, hj, hr⟩ := List.mem_flatMap.1 e
      have hj := List.mem_range.1 hj
      exact setsR_row hn f _ (by rw [fromR_snoc, List.length_append]; simp; omega) (by rw [fromR_snoc]; omega) r hr
theorem setsA_row {n : Int} (hn : n ≤ 6) : ∀ r ∈ setsA n, r.length ≤ 6 := setsR_row hn 6 [] (by simp [fromR]) (by simp [fromR])
theorem allR_row {n : Int} (hn : n ≤ 6) (l : Bk) : ∀ r ∈ allR n l, r.length ≤ 6 := fun r hr => setsA_row hn r (List.mem_filter.1 hr).1
theorem allR_length {n : Int} (hn : n ≤ 6) (l : Bk) : (allR n l).length ≤ 117649 := Nat.le_trans (List.length_filter_le _ _) (setsR_length hn 6 [] (by simp [fromR]))
/-- does a closed set that has a set have a fact? -/
def folAt (set : List Int) (k : Nat) (c : List Int) : Bool := !(part set c) || c.contains (k : Int)
theorem followsUpto_zero (n : Int) (l : Bk) (set : List Int) : followsUpto n l set 0 = [] := rfl
theorem followsUpto_succ (n : Int) (l : Bk) (set : List Int) (k : Nat) : followsUpto n l set (k + 1) = followsUpto n l set k ++ (if (allR n l).all (folAt set k) = true then [(k : Int)] else []) := by
  unfold followsUpto
  rw [List.range_succ, List.map_append, List.filter_append]
  simp only [List.map_cons, List.map_nil, List.filter_cons, List.filter_nil]
  rfl
theorem followsUpto_length (n : Int) (l : Bk) (set : List Int) (k : Nat) : (followsUpto n l set k).length ≤ k := by
  unfold followsUpto
  refine Nat.le_trans (List.length_filter_le _ _) (by simp)
end Go.V.R6
