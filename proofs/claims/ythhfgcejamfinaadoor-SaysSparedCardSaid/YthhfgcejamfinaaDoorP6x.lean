/-
  Shortest steps: the program's search and the reference's agree; so do steps carried out. Conditions: none.
  Shortest steps: the program's search finds what the reference finds. Conditions: none.
  Plain models of the chapter's reference: closed sets, what follows, all sets. Conditions: none.
  Shortest steps: the program's search, sets that are reached earlier first, finds the first steps. Conditions: none.
  Closed sets, what follows, all closed sets: the program's numbers and the reference's lists agree. Conditions: none.
  Plain models of the chapter's reference: open sets, the base. Conditions: none.
-/
import Derived.Test.YthhfgcejamfinaaDoorP6v
set_option linter.unusedVariables false
set_option linter.unusedSimpArgs false
set_option linter.deprecated false
namespace Go.V.R6

/-! ### lists as numbers -/
theorem sorted_ext : ∀ {a b : List Int}, a.Pairwise (· < ·) → b.Pairwise (· < ·) → (∀ x, x ∈ a ↔ x ∈ b) → a = b
  | [], [], _, _, _ => rfl
  | [], y :: b, _, _, h => by have := (h y).2 (by simp); simp at this
  | x :: a, [], _, _, h => by have := (h x).1 (by simp); simp at this
  | x :: a, y :: b, ha, hb, h => by
    rw [List.pairwise_cons] at ha hb
    have hxy : x = y := by
      have h1 := (h x).1 (by simp)
      have h2 := (h y).2 (by simp)
      rcases List.mem_cons.1 h1 with e | e
      · exact e
      · rcases List.mem_cons.1 h2 with e' | e'
        · exact e'.symm
        · have := hb.1 x e; have := ha.1 y e'; omega
    subst hxy
    rw [sorted_ext ha.2 hb.2 (fun z => ?_)]
    constructor
    · intro hz
      have := (h z).1 (by simp [hz])
      rcases List.mem_cons.1 this with e | e
      · subst e; have := ha.1 z hz; omega
      · exact e
    · intro hz
      have := (h z).2 (by simp [hz])
      rcases List.mem_cons.1 this with e | e
      · subst e; have := hb.1 z hz; omega
      · exact e
theorem range_sorted (k : Nat) : ((List.range k).map Int.ofNat).Pairwise (· < ·) := by
  rw [List.pairwise_map]
  exact List.pairwise_lt_range.imp (fun h => by simp; omega)
theorem lst_sorted (m : Nat) : (lst m).Pairwise (· < ·) := by
  unfold lst
  rw [List.pairwise_map]
  refine List.Pairwise.filter _ ?_
  exact List.pairwise_lt_range.imp (fun h => by simp; omega)
theorem fold_bit : ∀ (l : List Int) (o i : Nat), (l.foldl (fun o x => o ||| 2 ^ x.toNat) o).testBit i = true ↔ o.testBit i = true ∨ ∃ x ∈ l, x.toNat = i
  | [], o, i => by simp
  | x :: l, o, i => by
    rw [List.foldl_cons, fold_bit l, Nat.testBit_or, Nat.testBit_two_pow]
    simp only [Bool.or_eq_true, decide_eq_true_eq, List.mem_cons, exists_eq_or_imp, or_assoc]
theorem maskOf_bit {l : List Int} {i : Nat} : (maskOf l).testBit i = true ↔ ∃ x ∈ l, x.toNat = i := by
  unfold maskOf; rw [fold_bit]; simp
theorem readErr_sorted (n : Int) : ∀ (l : List Int) (last : Int), readErr n l last = 0 → (∀ x ∈ l, 0 ≤ x ∧ x < n ∧ last < x) ∧ l.Pairwise (· < ·)
  | [], _, _ => by simp
  | x :: r, last, h => by
    rw [readErr_cons] at h
    split at h
    · cases h
    · split at h
      · cases h
      · obtain ⟨h1, h2⟩ := readErr_sorted n r x h
        refine ⟨fun y hy => ?_, List.pairwise_cons.2 ⟨fun y hy => (h1 y hy).2.2, h2⟩⟩
        rcases List.mem_cons.1 hy with e | e
        · subst e; omega
        · have := h1 y e; omega
theorem listed_range {n : Int} {l : List Int} (h : listed l n = 0) : (∀ x ∈ l, 0 ≤ x ∧ x < n) ∧ l.Pairwise (· < ·) := by
  rw [listed_eq] at h
  obtain ⟨h1, h2⟩ := readErr_sorted n l (-1) h
  exact ⟨fun x hx => ⟨(h1 x hx).1, (h1 x hx).2.1⟩, h2⟩
theorem lst_maskOf {n : Int} {l : List Int} (hn : n ≤ 6) (h : listed l n = 0) : lst (maskOf l) = l := by
  obtain ⟨h1, h2⟩ := listed_range h
  refine sorted_ext (lst_sorted _) h2 fun x => ?_
  rw [lst_mem]
  constructor
  · rintro ⟨i, _, hi, rfl⟩
    obtain ⟨y, hy, e⟩ := maskOf_bit.1 hi
    have := h1 y hy
    have : y = (i : Int) := by omega
    exact this ▸ hy
  · intro hx
    have := h1 x hx
    exact ⟨x.toNat, by omega, maskOf_bit.2 ⟨x, hx, rfl⟩, by omega⟩
theorem lst_contains {m : Nat} {x : Int} (h0 : 0 ≤ x) (h8 : x < 8) : (lst m).contains x = m.testBit x.toNat := by
  rw [Bool.eq_iff_iff, List.contains_iff_mem, lst_mem]
  constructor
  · rintro ⟨i, _, hi, rfl⟩; simpa using hi
  · intro h; exact ⟨x.toNat, by omega, h, by omega⟩
theorem part_lst {a b : Nat} (ha : a < 256) : part (lst a) (lst b) = sub a b := by
  rw [Bool.eq_iff_iff, sub_iff]
  unfold part
  rw [List.all_eq_true]
  constructor
  · intro h i hi
    have h8 : i < 8 := testBit_lt (n := 8) ha hi
    have := h (i : Int) (lst_mem.2 ⟨i, h8, hi, rfl⟩)
    rw [lst_contains (by omega) (by omega)] at this
    simpa using this
  · intro h x hx
    obtain ⟨i, h8, hi, rfl⟩ := lst_mem.1 hx
    rw [lst_contains (by omega) (by omega)]
    simpa using h i hi
theorem joined_lst {n : Int} {a b : Nat} (hn : n ≤ 6) (ha : a < 2 ^ n.toNat) (hb : b < 2 ^ n.toNat) : joined n (lst a) (lst b) = lst (a ||| b) := by
  refine sorted_ext ?_ (lst_sorted _) fun x => ?_
  · unfold joined joinedUpto
    exact List.Pairwise.filter _ (range_sorted _)
  · unfold joined joinedUpto
    rw [List.mem_filter, List.mem_map, lst_mem, Bool.or_eq_true]
    constructor
    · rintro ⟨⟨i, hi, rfl⟩, h⟩
      have hi := List.mem_range.1 hi
      refine ⟨i, by omega, ?_, rfl⟩
      rw [show (Int.ofNat i) = (i : Int) from rfl, lst_contains (by omega) (by omega), lst_contains (by omega) (by omega)] at h
      rw [Nat.testBit_or, Bool.or_eq_true]
      simpa using h
    · rintro ⟨i, h8, hi, rfl⟩
      rw [lst_contains (by omega) (by omega), lst_contains (by omega) (by omega)]
      rw [Nat.testBit_or, Bool.or_eq_true] at hi
      refine ⟨⟨i, List.mem_range.2 ?_, rfl⟩, by simpa using hi⟩
      rcases hi with hi | hi
      · exact testBit_lt ha hi
      · exact testBit_lt hb hi

/-! ### sentences of a checked book -/
theorem knU_get {l : Bk} {i : Nat} (hi : i < l.length) : (knU l l.length).getD i (0, 0, 0) = knAt l i := by
  unfold knU
  rw [List.getD_eq_getElem?_getD, List.getElem?_map, List.getElem?_range hi]; rfl
theorem sent_lst {n : Int} {l : Bk} (h : check n l = 0) {i : Nat} (hi : i < l.length) : (sAt l i).1 = lst (knAt l i).1 ∧ (sAt l i).2 = lst (knAt l i).2.1 ∧ (knAt l i).1 < 2 ^ n.toNat ∧ (knAt l i).2.1 < 2 ^ n.toNat := by
  have hn := check_range h
  obtain ⟨h1, h2⟩ := check_at h hi
  exact ⟨(lst_maskOf hn.2 h1).symm, (lst_maskOf hn.2 h2).symm, maskOf_lt h1, maskOf_lt h2⟩
theorem or_lt {n : Int} {a b : Nat} (ha : a < 2 ^ n.toNat) (hb : b < 2 ^ n.toNat) : a ||| b < 2 ^ n.toNat := Nat.or_lt_two_pow ha hb

/-! ### steps carried out -/
theorem goes_fold {n : Int} {l : Bk} (h : check n l = 0) : ∀ (steps : List Int) (f : Nat) (e : Int), f < 2 ^ n.toNat →
    steps.foldl (goesStep n l) (lst f, e) = (lst (steps.foldl (goStep (knU l l.length)) (f, e)).1, (steps.foldl (goStep (knU l l.length)) (f, e)).2)
  | [], f, e, _ => rfl
  | i :: r, f, e, hf => by
    have hn := check_range h
    have h6 := pow_le64 hn.2
    rw [List.foldl_cons, List.foldl_cons]
    have key : ∃ g e', g < 2 ^ n.toNat ∧ goesStep n l (lst f, e) i = (lst g, e') ∧ goStep (knU l l.length) (f, e) i = (g, e') := by
      unfold goesStep goStep
      by_cases he : e = 0
      · subst he
        by_cases hr : i < 0 ∨ (l.length : Int) ≤ i
        · have : inI i 0 (l.length - 1) = false := by unfold inI; simp; omega
          exact ⟨f, 2, hf, by simp [this], by simp [hr, knU_length]⟩
        · have : inI i 0 (l.length - 1) = true := by unfold inI; simp; omega
          have hi : i.toNat < l.length := by omega
          obtain ⟨e1, e2, l1, l2⟩ := sent_lst h hi
          have hg := knU_get hi
          by_cases hs : sub (knAt l i.toNat).1 f = true
          · refine ⟨f ||| (knAt l i.toNat).2.1, 0, or_lt hf l2, ?_, ?_⟩
            · simp [this, e1, e2, part_lst (show (knAt l i.toNat).1 < 256 by omega), hs, joined_lst hn.2 hf l2]
            · simp only [knU_length, hr, hg, hs]; simp
          · have hs : sub (knAt l i.toNat).1 f = false := by simpa using hs
            refine ⟨f, 12, hf, ?_, ?_⟩
            · simp [this, e1, part_lst (show (knAt l i.toNat).1 < 256 by omega), hs]
            · simp only [knU_length, hr, hg, hs]; simp
      · exact ⟨f, e, hf, by simp [he], by simp [he]⟩
    obtain ⟨g, e', hg, k1, k2⟩ := key
    rw [k1, k2]
    exact goes_fold h r g e' hg
theorem goTop_eq (n : Int) (l : Bk) (set steps : List Int) : goTop n l set steps = goesTop n l set steps := by
  unfold goTop goesTop goesR
  by_cases h : asked n l set = 0
  · have hc := (asked_ok h).1
    have hl := (asked_ok h).2
    have hn := check_range hc
    have e0 : lst (maskOf set) = set := lst_maskOf hn.2 hl
    have := goes_fold hc steps (maskOf set) 0 (maskOf_lt hl)
    rw [e0] at this
    rw [h, this, openedM_ok hc]
    simp only [askedM, h, goM]
    simp
  · rw [goesR_err _ _ _ _ h]
    simp [h]
end Go.V.R6

namespace Go.V.R6

/-! ### steps as numbers: shorter ones first, then smaller ones -/
def cod (c : Int) (p : List Int) : Int := p.foldl (fun c i => 8 * c + i + 1) c
def Dg (p : List Int) : Prop := ∀ i ∈ p, 0 ≤ i ∧ i < 8
theorem cod_cons (c i : Int) (p : List Int) : cod c (i :: p) = cod (8 * c + i + 1) p := rfl
theorem cod_snoc (c i : Int) (p : List Int) : cod c (p ++ [i]) = 8 * cod c p + i + 1 := by unfold cod; rw [List.foldl_append]; rfl
theorem pow8_pos (m : Nat) : (0 : Int) < 8 ^ m := Int.pow_pos (by omega)
theorem cod_lo : ∀ (p : List Int) (c : Int), Dg p → 8 ^ p.length * (7 * c + 1) ≤ 7 * cod c p + 1
  | [], c, _ => by simp [cod]
  | i :: p, c, h => by
    have hi := h i (by simp)
    have ih := cod_lo p (8 * c + i + 1) (fun j hj => h j (by simp [hj]))
    rw [cod_cons, List.length_cons, Int.pow_succ]
    refine Int.le_trans ?_ ih
    rw [Int.mul_assoc]
    exact Int.mul_le_mul_of_nonneg_left (by omega) (Int.le_of_lt (pow8_pos _))
theorem cod_hi : ∀ (p : List Int) (c : Int), Dg p → 7 * cod c p + 8 ≤ 8 ^ p.length * (7 * c + 8)
  | [], c, _ => by simp [cod]
  | i :: p, c, h => by
    have hi := h i (by simp)
    have ih := cod_hi p (8 * c + i + 1) (fun j hj => h j (by simp [hj]))
    rw [cod_cons, List.length_cons, Int.pow_succ]
    refine Int.le_trans ih ?_
    rw [Int.mul_assoc]
    exact Int.mul_le_mul_of_nonneg_left (by omega) (Int.le_of_lt (pow8_pos _))
theorem cod_lt {p q : List Int} {c d : Int} (hp : Dg p) (hq : Dg q) (hl : p.length = q.length) (h : c < d) : cod c p < cod d q := by
  have h1 := cod_hi p c hp
  have h2 := cod_lo q d hq
  rw [← hl] at h2
  have h3 : (8 : Int) ^ p.length * (7 * c + 8) ≤ 8 ^ p.length * (7 * d + 1) := Int.mul_le_mul_of_nonneg_left (by omega) (Int.le_of_lt (pow8_pos _))
  omega
theorem pow8_mono {a b : Nat} (h : a ≤ b) : (8 : Int) ^ a ≤ 8 ^ b := by
  obtain ⟨k, rfl⟩ : ∃ k, b = a + k := ⟨b - a, by omega⟩
  rw [Int.pow_add]
  have := pow8_pos k
  have h2 := Int.mul_le_mul_of_nonneg_left (show (1 : Int) ≤ 8 ^ k by omega) (Int.le_of_lt (pow8_pos a))
  omega
theorem cod_short {p q : List Int} (hp : Dg p) (hq : Dg q) (h : p.length < q.length) : cod 0 p < cod 0 q := by
  have h1 := cod_hi p 0 hp
  have h2 := cod_lo q 0 hq
  have h3 := pow8_mono (show p.length + 1 ≤ q.length from h)
  rw [Int.pow_succ] at h3
  omega
theorem cod_inj' : ∀ {p q : List Int} {c : Int}, Dg p → Dg q → p.length = q.length → cod c p = cod c q → p = q
  | [], [], _, _, _, _, _ => rfl
  | [], _ :: _, _, _, _, h, _ => by simp at h
  | _ :: _, [], _, _, _, h, _ => by simp at h
  | i :: p, j :: q, c, hp, hq, hl, h => by
    have hp' : Dg p := fun x hx => hp x (by simp [hx])
    have hq' : Dg q := fun x hx => hq x (by simp [hx])
    have hl' : p.length = q.length := by simpa using hl
    rw [cod_cons, cod_cons] at h
    rcases Int.lt_trichotomy i j with e | e | e
    · have := cod_lt hp' hq' hl' (show 8 * c + i + 1 < 8 * c + j + 1 by omega); omega
    · subst e; rw [cod_inj' hp' hq' hl' h]
    · have := cod_lt hq' hp' hl'.symm (show 8 * c + j + 1 < 8 * c + i + 1 by omega); omega
theorem cod_inj {p q : List Int} (hp : Dg p) (hq : Dg q) (h : cod 0 p = cod 0 q) : p = q := by
  rcases Nat.lt_trichotomy p.length q.length with e | e | e
  · have := cod_short hp hq e; omega
  · exact cod_inj' hp hq e h
  · have := cod_short hq hp e; omega

/-! ### steps that can be carried out -/
abbrev kn (ks : List Kn) (i : Int) : Kn := ks.getD i.toNat (0, 0, 0)
def endS (ks : List Kn) (s : Nat) (p : List Int) : Nat := p.foldl (fun s i => s ||| (kn ks i).2.1) s
def valS (ks : List Kn) : Nat → List Int → Prop
  | _, [] => True
  | s, i :: p => (0 ≤ i ∧ i < ks.length) ∧ sub (kn ks i).1 s = true ∧ valS ks (s ||| (kn ks i).2.1) p
def strS (ks : List Kn) : Nat → List Int → Prop
  | _, [] => True
  | s, i :: p => sub (kn ks i).2.1 s = false ∧ strS ks (s ||| (kn ks i).2.1) p
theorem endS_cons (ks : List Kn) (s : Nat) (i : Int) (p : List Int) : endS ks s (i :: p) = endS ks (s ||| (kn ks i).2.1) p := rfl
theorem endS_snoc (ks : List Kn) (s : Nat) (i : Int) (p : List Int) : endS ks s (p ++ [i]) = endS ks s p ||| (kn ks i).2.1 := by unfold endS; rw [List.foldl_append]; rfl
theorem valS_snoc {ks : List Kn} {i : Int} : ∀ {p : List Int} {s : Nat}, valS ks s (p ++ [i]) ↔ valS ks s p ∧ (0 ≤ i ∧ i < ks.length) ∧ sub (kn ks i).1 (endS ks s p) = true
  | [], s => by simp [valS, endS]
  | j :: p, s => by
    rw [List.cons_append, valS, valS, valS_snoc, endS_cons]
    simp only [and_assoc]
theorem valS_dg {ks : List Kn} (h8 : ks.length ≤ 8) : ∀ {p : List Int} {s : Nat}, valS ks s p → Dg p
  | [], _, _ => by intro i hi; simp at hi
  | j :: p, s, h => by
    rw [valS] at h
    intro i hi
    rcases List.mem_cons.1 hi with e | e
    · subst e; omega
    · exact valS_dg h8 h.2.2 i e
theorem strict_of {ks : List Kn} : ∀ (q : List Int) (s : Nat), valS ks s q → ∃ q', valS ks s q' ∧ strS ks s q' ∧ endS ks s q' = endS ks s q ∧ (q' = q ∨ q'.length < q.length)
  | [], s, _ => ⟨[], trivial, trivial, rfl, .inl rfl⟩
  | i :: p, s, h => by
    rw [valS] at h
    obtain ⟨q', h1, h2, h3, h4⟩ := strict_of p _ h.2.2
    by_cases hs : sub (kn ks i).2.1 s = true
    · have e := or_eq_of_sub hs
      rw [e] at h1 h2 h3
      refine ⟨q', h1, h2, ?_, .inr ?_⟩
      · rw [endS_cons, e]; exact h3
      · rcases h4 with h4 | h4
        · subst h4; simp
        · simp; omega
    · refine ⟨i :: q', ⟨h.1, h.2.1, h1⟩, ⟨by simpa using hs, h2⟩, by rw [endS_cons, endS_cons, h3], ?_⟩
      rcases h4 with h4 | h4
      · subst h4; exact .inl rfl
      · exact .inr (by simpa using h4)
theorem oc8_grow : ∀ a < 64, ∀ b < 64, sub b a = false → oc8 a < oc8 (a ||| b) := by decide +kernel
theorem oc8_bound : ∀ n ≤ 6, ∀ a < 2 ^ n, oc8 a ≤ n := by decide +kernel
theorem strict_len {ks : List Kn} {n : Nat} (hn : n ≤ 6) (hk : ∀ k ∈ ks, k.1 < 2 ^ n ∧ k.2.1 < 2 ^ n) : ∀ (q : List Int) (s : Nat), s < 2 ^ n → valS ks s q → strS ks s q → q.length + oc8 s ≤ n
  | [], s, hs, _, _ => by simpa using oc8_bound n hn s hs
  | i :: p, s, hs, hv, ht => by
    rw [valS] at hv
    rw [strS] at ht
    have hi : i.toNat < ks.length := by omega
    have h2 : (kn ks i).2.1 < 2 ^ n := by
      have := hk ks[i.toNat] (List.getElem_mem _)
      simp only [kn, List.getD_eq_getElem?_getD, List.getElem?_eq_getElem hi, Option.getD_some]
      exact this.2
    have h64 : 2 ^ n ≤ 64 := Nat.le_trans (Nat.pow_le_pow_right (by omega) hn) (by decide)
    have := strict_len hn hk p _ (Nat.or_lt_two_pow hs h2) hv.2.2 ht.2
    have := oc8_grow s (by omega) _ (show (kn ks i).2.1 < 64 by omega) ht.1
    simp; omega
/-- the first steps to a fact -/
def Best (ks : List Kn) (fact s : Nat) (p : List Int) : Prop := valS ks s p ∧ (endS ks s p).testBit fact = true ∧ ∀ q, valS ks s q → (endS ks s q).testBit fact = true → cod 0 p ≤ cod 0 q
theorem Best.unique {ks : List Kn} (h8 : ks.length ≤ 8) {fact s : Nat} {p q : List Int} (hp : Best ks fact s p) (hq : Best ks fact s q) : p = q := by
  have h1 := hp.2.2 q hq.1 hq.2.1
  have h2 := hq.2.2 p hp.1 hp.2.1
  exact cod_inj (valS_dg h8 hp.1) (valS_dg h8 hq.1) (by omega)

/-! ### the reference's way: so many steps, tried in order -/
def idsAt (ks : List Kn) (r : Nat → Option (List Int)) (s i : Nat) : Option (List Int) :=
  if sub (kn ks i).1 s = true ∧ sub (kn ks i).2.1 s = false then (r (s ||| (kn ks i).2.1)).map ((i : Int) :: ·) else none
def ids (ks : List Kn) (fact : Nat) : Nat → Nat → Option (List Int)
  | 0, s => if s.testBit fact = true then some [] else none
  | m + 1, s => (List.range ks.length).findSome? (idsAt ks (ids ks fact m) s)
theorem findSome_congr {α β : Type} {f g : α → Option β} : ∀ {l : List α}, (∀ x ∈ l, f x = g x) → l.findSome? f = l.findSome? g
  | [], _ => rfl
  | x :: l, h => by
    rw [List.findSome?_cons, List.findSome?_cons, h x (by simp), findSome_congr (fun y hy => h y (by simp [hy]))]
theorem findSome_map {α β γ : Type} (g : α → Option β) (h : β → γ) : ∀ (l : List α), l.findSome? (fun x => (g x).map h) = (l.findSome? g).map h
  | [] => rfl
  | x :: l => by
    rw [List.findSome?_cons, List.findSome?_cons, findSome_map g h l]
    cases g x <;> rfl
theorem findSome_first {β : Type} {f : Nat → Option β} : ∀ {n : Nat} {b : β}, (List.range n).findSome? f = some b → ∃ k, k < n ∧ f k = some b ∧ ∀ j, j < k → f j = none
  | 0, b, h => by simp at h
  | n + 1, b, h => by
    rw [List.range_succ, List.findSome?_append] at h
    cases h1 : (List.range n).findSome? f with
    | some c =>
      rw [h1] at h
      obtain ⟨k, h2, h3, h4⟩ := findSome_first h1
      simp at h
      subst h
      exact ⟨k, by omega, h3, h4⟩
    | none =>
      rw [h1] at h
      rw [List.findSome?_eq_none_iff] at h1
      refine ⟨n, by omega, ?_, fun j hj => h1 j (List.mem_range.2 hj)⟩
      rw [List.findSome?_cons] at h
      cases hf : f n with
      | none => rw [hf] at h; simp at h
      | some c => rw [hf] at h; simpa using h
theorem stepsR_ids {n : Int} {l : Bk} (h : check n l = 0) {fact : Int} (h0 : 0 ≤ fact) (h8 : fact < n) : ∀ (m s : Nat) (begun : List Int), s < 2 ^ n.toNat →
    ((stepsR n l fact m (lst s) begun).2 = (ids (knU l l.length) fact.toNat m s).isSome) ∧ ∀ q, ids (knU l l.length) fact.toNat m s = some q → (stepsR n l fact m (lst s) begun).1 = begun ++ q
  | 0, s, begun, hs => by
    have hn := check_range h
    unfold stepsR ids
    rw [lst_contains h0 (by omega)]
    by_cases hb : s.testBit fact.toNat = true
    · simp [hb]
    · simp [hb]
  | m + 1, s, begun, hs => by
    have hn := check_range h
    have h6 := pow_le64 hn.2
    have key : (List.range l.length).findSome? (stepAt n l fact m (lst s) begun) = (ids (knU l l.length) fact.toNat (m + 1) s).map (begun ++ ·) := by
      unfold ids
      rw [knU_length, ← findSome_map]
      refine findSome_congr fun i hi => ?_
      have hi := List.mem_range.1 hi
      obtain ⟨e1, e2, l1, l2⟩ := sent_lst h hi
      have hg : kn (knU l l.length) (i : Int) = knAt l i := by simpa using knU_get hi
      unfold stepAt idsAt
      rw [hg, e1, e2, part_lst (show (knAt l i).1 < 256 by omega), part_lst (show (knAt l i).2.1 < 256 by omega), joined_lst hn.2 hs l2]
      obtain ⟨ih1, ih2⟩ := stepsR_ids h h0 h8 m (s ||| (knAt l i).2.1) (begun ++ [(i : Int)]) (or_lt hs l2)
      by_cases hc : sub (knAt l i).1 s = true ∧ sub (knAt l i).2.1 s = false
      · rw [if_pos hc, if_pos hc, ih1]
        cases hq : ids (knU l l.length) fact.toNat m (s ||| (knAt l i).2.1) with
        | none => simp
        | some q => simp [ih2 q hq]
      · rw [if_neg hc, if_neg hc]; rfl
    unfold stepAt at key
    unfold stepsR
    rw [key]
    cases hq : ids (knU l l.length) fact.toNat (m + 1) s with
    | none => simp
    | some q => simp
theorem ids_none {ks : List Kn} (h8 : ks.length ≤ 8) {fact : Nat} : ∀ (m s : Nat), ids ks fact m s = none → ∀ q', valS ks s q' → strS ks s q' → q'.length = m → ¬ (endS ks s q').testBit fact = true
  | 0, s, h, q', _, _, hl, hb => by
    obtain rfl : q' = [] := by simpa using hl
    unfold ids at h
    rw [if_pos (show s.testBit fact = true from hb)] at h
    cases h
  | m + 1, s, h, q', hv, hs, hl, hb => by
    cases q' with
    | nil => simp at hl
    | cons j r =>
      rw [valS] at hv
      rw [strS] at hs
      rw [endS_cons] at hb
      have hl : r.length = m := by simpa using hl
      unfold ids at h
      rw [List.findSome?_eq_none_iff] at h
      have := h j.toNat (List.mem_range.2 (by omega))
      unfold idsAt at this
      have ej : ((j.toNat : Nat) : Int) = j := by omega
      rw [ej, if_pos ⟨hv.2.1, hs.1⟩] at this
      exact ids_none h8 m _ (by simpa using this) r hv.2.2 hs.2 hl hb
theorem ids_some {ks : List Kn} (h8 : ks.length ≤ 8) {fact : Nat} : ∀ (m s : Nat) (q : List Int), ids ks fact m s = some q →
    valS ks s q ∧ q.length = m ∧ (endS ks s q).testBit fact = true ∧ ∀ q', valS ks s q' → strS ks s q' → q'.length = m → (endS ks s q').testBit fact = true → ∀ c, cod c q ≤ cod c q'
  | 0, s, q, h => by
    unfold ids at h
    split at h
    · rename_i hb
      simp at h; subst h
      refine ⟨trivial, rfl, hb, fun q' _ _ hl _ c => ?_⟩
      obtain rfl : q' = [] := by simpa using hl
      omega
    · cases h
  | m + 1, s, q, h => by
    unfold ids at h
    obtain ⟨k, hk, hf, hn⟩ := findSome_first h
    unfold idsAt at hf
    split at hf
    · rename_i hc
      cases ht : ids ks fact m (s ||| (kn ks k).2.1) with
      | none => rw [ht] at hf; cases hf
      | some t =>
        rw [ht] at hf
        simp at hf
        subst hf
        obtain ⟨i1, i2, i3, i4⟩ := ids_some h8 m _ t ht
        refine ⟨⟨by omega, hc.1, i1⟩, by simp [i2], by rw [endS_cons]; exact i3, fun q' hv hs hl hb c => ?_⟩
        cases q' with
        | nil => simp at hl
        | cons j r =>
          rw [valS] at hv
          rw [strS] at hs
          rw [endS_cons] at hb
          have hl : r.length = m := by simpa using hl
          rw [cod_cons, cod_cons]
          have hr := valS_dg h8 hv.2.2
          have htd := valS_dg h8 i1
          rcases Int.lt_trichotomy j k with e | e | e
          · exfalso
            have := hn j.toNat (by omega)
            unfold idsAt at this
            have ej : ((j.toNat : Nat) : Int) = j := by omega
            rw [ej, if_pos ⟨hv.2.1, hs.1⟩] at this
            have hnone := ids_none h8 m _ (by simpa using this) r hv.2.2 hs.2 hl
            exact hnone hb
          · subst e
            have hl' : r.length = m := by simpa using hl
            exact i4 r hv.2.2 hs.2 hl' hb _
          · exact Int.le_of_lt (cod_lt htd hr (by omega) (by omega))
    · cases hf
/-- the first number of steps with which there are any -/
def idsTop (ks : List Kn) (fact n s : Nat) : Option (List Int) := (List.range (n + 1)).findSome? (fun m => ids ks fact m s)
theorem idsTop_best {ks : List Kn} (h8 : ks.length ≤ 8) {fact n s : Nat} {p : List Int} (h : idsTop ks fact n s = some p) : Best ks fact s p := by
  obtain ⟨m, _, hm, hn⟩ := findSome_first h
  obtain ⟨h1, h2, h3, h4⟩ := ids_some h8 m s p hm
  refine ⟨h1, h3, fun q hv hb => ?_⟩
  obtain ⟨q', v', s', e', l'⟩ := strict_of q s hv
  rw [← e'] at hb
  have hge : m ≤ q'.length := by
    rcases Nat.lt_or_ge q'.length m with hlt | hge
    · exact absurd hb (ids_none h8 _ s (hn _ hlt) q' v' s' rfl)
    · exact hge
  have hpd := valS_dg h8 h1
  have hqd := valS_dg h8 hv
  rcases Nat.lt_or_ge p.length q.length with hlt | hle
  · exact Int.le_of_lt (cod_short hpd hqd hlt)
  · rcases l' with l' | l'
    · subst l'
      exact h4 q' v' s' (by omega) hb 0
    · omega
theorem idsTop_none {ks : List Kn} (h8 : ks.length ≤ 8) {fact n s : Nat} (hn : n ≤ 6) (hk : ∀ k ∈ ks, k.1 < 2 ^ n ∧ k.2.1 < 2 ^ n) (hs : s < 2 ^ n) (h : idsTop ks fact n s = none) (q : List Int) (hv : valS ks s q) : ¬ (endS ks s q).testBit fact = true := by
  obtain ⟨q', v', s', e', l'⟩ := strict_of q s hv
  rw [← e']
  have hl := strict_len hn hk q' s hs v' s'
  unfold idsTop at h
  rw [List.findSome?_eq_none_iff] at h
  exact ids_none h8 _ s (h q'.length (List.mem_range.2 (by omega))) q' v' s' rfl
end Go.V.R6

namespace Go.V.R6
def closedR (l : Bk) (set : List Int) : Bool := l.all fun s => !(part s.1 set) || part s.2 set
theorem closedR_take {l : Bk} {set : List Int} {k : Nat} {x : List Int × List Int} (h : closedR (l.take k) set = true) (hx : l[k]? = some x) (hc : part x.1 set = false ∨ part x.2 set = true) : closedR (l.take (k + 1)) set = true := by
  rw [take_succ_of hx]; unfold closedR at *; rw [List.all_append, h]
  rcases hc with hc | hc <;> simp [hc]
theorem closedR_false {l : Bk} {set : List Int} {k : Nat} {x : List Int × List Int} (hx : l[k]? = some x) (h1 : part x.1 set = true) (h2 : part x.2 set = false) : closedR l set = false := by
  unfold closedR; rw [List.all_eq_false]; exact ⟨x, List.mem_of_getElem? hx, by simp [h1, h2]⟩
def fromR (b : List Int) : Int := if 0 < b.length then b.getD (b.length - 1) 0 + 1 else 0
theorem fromR_snoc (b : List Int) (i : Int) : fromR (b ++ [i]) = i + 1 := by simp [fromR]
def setsR : Nat → Int → List Int → List (List Int)
  | 0, _, b => [b]
  | f + 1, n, b => b :: (List.range (n - fromR b).toNat).flatMap fun (j : Nat) => setsR f n (b ++ [fromR b + (j : Int)])
theorem flatMap_congr' {α β : Type} {f g : α → List β} : ∀ {l : List α}, (∀ x ∈ l, f x = g x) → l.flatMap f = l.flatMap g
  | [], _ => rfl
  | x :: l, h => by rw [List.flatMap_cons, List.flatMap_cons, h x (by simp), flatMap_congr' fun y hy => h y (by simp [hy])]
theorem setsR_fuel (n : Int) : ∀ (f : Nat) (b : List Int), (n - fromR b).toNat ≤ f → setsR (f + 1) n b = setsR f n b
  | 0, b, h => by
    have : (n - fromR b).toNat = 0 := by omega
    simp [setsR, this]
  | f + 1, b, h => by
    conv => lhs; rw [setsR]
    conv => rhs; rw [setsR]
    rw [flatMap_congr' fun j hj => ?_]
    have := List.mem_range.1 hj
    exact setsR_fuel n f _ (by rw [fromR_snoc]; omega)
/-- the first ones of the sets that begin with some -/
def setsK (n : Int) (b : List Int) (k : Nat) : List (List Int) := b :: (List.range k).flatMap fun (j : Nat) => setsR 6 n (b ++ [fromR b + (j : Int)])
theorem setsK_zero (n : Int) (b : List Int) : setsK n b 0 = [b] := by simp [setsK]
theorem setsK_succ (n : Int) (b : List Int) (k : Nat) : setsK n b (k + 1) = setsK n b k ++ setsR 6 n (b ++ [fromR b + (k : Int)]) := by
  unfold setsK; rw [List.range_succ, List.flatMap_append]; simp
theorem setsK_all {n : Int} {b : List Int} (hn : n ≤ 6) (hb : 0 ≤ fromR b) : setsK n b (n - fromR b).toNat = setsR 6 n b := by
  rw [← setsR_fuel n 6 b (by omega)]; rfl
theorem flatMap_length_le {α β : Type} {f : α → List β} {m : Nat} : ∀ {l : List α}, (∀ x ∈ l, (f x).length ≤ m) → (l.flatMap f).length ≤ l.length * m
  | [], _ => by simp
  | x :: l, h => by
    rw [List.flatMap_cons, List.length_append, List.length_cons, Nat.succ_mul]
    have := h x (by simp)
    have := flatMap_length_le (m := m) fun y hy => h y (List.mem_cons_of_mem x hy)
    omega
theorem setsR_length {n : Int} (hn : n ≤ 6) : ∀ (f : Nat) (b : List Int), 0 ≤ fromR b → (setsR f n b).length ≤ 7 ^ f
  | 0, b, _ => by simp [setsR]
  | f + 1, b, hb => by
    rw [setsR, List.length_cons]
    have h := flatMap_length_le (f := fun j : Nat => setsR f n (b ++ [fromR b + (j : Int)])) (m := 7 ^ f) (l := List.range (n - fromR b).toNat) fun j _ => setsR_length hn f _ (by rw [fromR_snoc]; omega)
    rw [List.length_range] at h
    have h2 : (n - fromR b).toNat * 7 ^ f ≤ 6 * 7 ^ f := Nat.mul_le_mul_right _ (by omega)
    have h3 : 0 < 7 ^ f := Nat.pow_pos (by omega)
    rw [Nat.pow_succ]; omega
theorem setsK_length {n : Int} (hn : n ≤ 6) {b : List Int} (hb : 0 ≤ fromR b) {k : Nat} (hk : k ≤ 6) : (setsK n b k).length ≤ 1000000 := by
  unfold setsK
  rw [List.length_cons]
  have h := flatMap_length_le (f := fun j : Nat => setsR 6 n (b ++ [fromR b + (j : Int)])) (m := 7 ^ 6) (l := List.range k) fun j _ => setsR_length hn 6 _ (by rw [fromR_snoc]; omega)
  rw [List.length_range] at h
  omega
/-- all sets of so many facts -/
def setsA (n : Int) : List (List Int) := setsR 6 n []
def allR (n : Int) (l : Bk) : List (List Int) := (setsA n).filter (closedR l)
def followsUpto (n : Int) (l : Bk) (set : List Int) (k : Nat) : List Int := ((List.range k).map Int.ofNat).filter fun i => (allR n l).all fun c => !(part set c) || c.contains i
def followsR (n : Int) (l : Bk) (set : List Int) : List Int := followsUpto n l set n.toNat
theorem setsR_row {n : Int} (hn : n ≤ 6) : ∀ (f : Nat) (b : List Int), b.length ≤ fromR b → fromR b ≤ 6 → ∀ r ∈ setsR f n b, r.length ≤ 6
  | 0, b, h1, h2, r, hr => by
    simp [setsR] at hr; subst hr; omega
  | f + 1, b, h1, h2, r, hr => by
    rw [setsR] at hr
    rcases List.mem_cons.1 hr with e | e
    · subst e; omega
    · obtain ⟨j, hj, hr⟩ := List.mem_flatMap.1 e
      have hj := List.mem_range.1 hj
      exact setsR_row hn f _ (by rw [fromR_snoc, List.length_append]; simp; omega) (by rw [fromR_snoc]; omega) r hr
theorem setsA_row {n : Int} (hn : n ≤ 6) : ∀ r ∈ setsA n, r.length ≤ 6 := setsR_row hn 6 [] (by simp [fromR]) (by simp [fromR])
theorem allR_row {n : Int} (hn : n ≤ 6) (l : Bk) : ∀ r ∈ allR n l, r.length ≤ 6 := fun r hr => setsA_row hn r (List.mem_filter.1 hr).1
theorem allR_length {n : Int} (hn : n ≤ 6) (l : Bk) : (allR n l).length ≤ 117649 := Nat.le_trans (List.length_filter_le _ _) (setsR_length hn 6 [] (by simp [fromR]))
/-- does a closed set that has a set have a fact? -/
def folAt (set : List Int) (k : Nat) (c : List Int) : Bool := !(part set c) || c.contains (k : Int)
theorem followsUpto_zero (n : Int) (l : Bk) (set : List Int) : followsUpto n l set 0 = [] := rfl
theorem followsUpto_succ (n : Int) (l : Bk) (set : List Int) (k : Nat) : followsUpto n l set (k + 1) = followsUpto n l set k ++ (if (allR n l).all (folAt set k) = true then [(k : Int)] else []) := by
  unfold followsUpto
  rw [List.range_succ, List.map_append, List.filter_append]
  simp only [List.map_cons, List.map_nil, List.filter_cons, List.filter_nil]
  rfl
theorem followsUpto_length (n : Int) (l : Bk) (set : List Int) (k : Nat) : (followsUpto n l set k).length ≤ k := by
  unfold followsUpto
  refine Nat.le_trans (List.length_filter_le _ _) (by simp)
end Go.V.R6

namespace Go.V.R6

/-- entries: how they are reached -/
def From (ks : List Kn) (s : Nat) (w : Way) : Prop := valS ks s w.2 ∧ endS ks s w.2 = w.1
/-- from an entry, by a sentence: the set is there, no later than by this way -/
def Goes1 (ks : List Kn) (w : Way) (todo : List Way) (i : Nat) : Prop :=
  sub (kn ks i).1 w.1 = true → ∃ v ∈ todo, v.1 = w.1 ||| (kn ks i).2.1 ∧ cod 0 v.2 ≤ cod 0 (w.2 ++ [(i : Int)])
def Rise (todo : List Way) : Prop := todo.Pairwise fun a b => cod 0 a.2 < cod 0 b.2

structure Inv (ks : List Kn) (fact s k : Nat) (todo : List Way) : Prop where
  frm : ∀ w ∈ todo, From ks s w
  zero : (s, ([] : List Int)) ∈ todo
  rise : Rise todo
  miss : ∀ j w, j < k → todo[j]? = some w → w.1.testBit fact = false
  goes : ∀ j w, j < k → todo[j]? = some w → ∀ i, i < ks.length → Goes1 ks w todo i
  high : ∀ j w, k ≤ j → todo[j]? = some w → ∀ v ∈ todo, cod 0 v.2 < cod 0 (w.2 ++ [(0 : Int)])

/-- within the round of an entry -/
structure RowInv (ks : List Kn) (s : Nat) (w : Way) (old todo : List Way) (i : Nat) : Prop where
  ext : ∃ new, todo = old ++ new
  frm : ∀ v ∈ todo, From ks s v
  rise : Rise todo
  goes : ∀ j, j < i → Goes1 ks w todo j
  high : ∀ v ∈ todo, cod 0 v.2 < cod 0 (w.2 ++ [(i : Int)])

theorem Goes1.more {ks : List Kn} {w : Way} {todo todo' : List Way} {i : Nat} (h : Goes1 ks w todo i) (hs : ∀ v ∈ todo, v ∈ todo') : Goes1 ks w todo' i := fun hc => by
  obtain ⟨v, hv, e, l⟩ := h hc
  exact ⟨v, hs v hv, e, l⟩

theorem RowInv.step {ks : List Kn} {s : Nat} {w : Way} {old todo : List Way} {i : Nat} (h : RowInv ks s w old todo i) (hw : From ks s w) (hi : i < ks.length) : RowInv ks s w old (bfsStep ks w todo i) (i + 1) := by
  have hup : ∀ v : Way, cod 0 v.2 < cod 0 (w.2 ++ [(i : Int)]) → cod 0 v.2 < cod 0 (w.2 ++ [((i + 1 : Nat) : Int)]) := fun v hv => by
    rw [cod_snoc] at *; omega
  unfold bfsStep
  have eg : ks.getD i (0, 0, 0) = kn ks (i : Int) := by simp [kn]
  rw [eg]
  split
  · rename_i hc
    have hnew : From ks s (w.1 ||| (kn ks i).2.1, w.2 ++ [(i : Int)]) := by
      refine ⟨valS_snoc.2 ⟨hw.1, by omega, ?_⟩, ?_⟩
      · rw [hw.2]; exact hc.1
      · show endS ks s (w.2 ++ [(i : Int)]) = _
        rw [endS_snoc, hw.2]
    obtain ⟨new, hnew'⟩ := h.ext
    refine ⟨⟨new ++ [(w.1 ||| (kn ks i).2.1, w.2 ++ [(i : Int)])], by rw [hnew']; simp⟩, fun v hv => ?_, ?_, fun j hj => ?_, fun v hv => ?_⟩
    · rcases List.mem_append.1 hv with hv | hv
      · exact h.frm v hv
      · simp at hv; subst hv; exact hnew
    · unfold Rise
      rw [List.pairwise_append]
      refine ⟨h.rise, by simp, fun a ha b hb => ?_⟩
      simp at hb; subst hb
      exact h.high a ha
    · by_cases e : j = i
      · subst e
        exact fun _ => ⟨_, List.mem_append_right _ (List.mem_singleton.2 rfl), rfl, Int.le_refl _⟩
      · exact (h.goes j (by omega)).more fun v hv => List.mem_append_left _ hv
    · rcases List.mem_append.1 hv with hv | hv
      · exact hup v (h.high v hv)
      · simp at hv; subst hv
        show cod 0 (w.2 ++ [(i : Int)]) < _
        rw [cod_snoc, cod_snoc]; omega
  · rename_i hc
    refine ⟨h.ext, h.frm, h.rise, fun j hj => ?_, fun v hv => hup v (h.high v hv)⟩
    by_cases e : j = i
    · subst e
      intro hs
      have : ¬ (todo.map (·.1)).any ((w.1 ||| (kn ks j).2.1) == ·) = false := fun h2 => hc ⟨hs, h2⟩
      have : (todo.map (·.1)).any ((w.1 ||| (kn ks j).2.1) == ·) = true := by simpa using this
      obtain ⟨x, hx, e⟩ := List.any_eq_true.1 this
      obtain ⟨v, hv, rfl⟩ := List.mem_map.1 hx
      refine ⟨v, hv, ?_, Int.le_of_lt (h.high v hv)⟩
      have := eq_of_beq e
      exact this.symm
    · exact h.goes j (by omega)

theorem RowInv.row {ks : List Kn} {s : Nat} {w : Way} {todo : List Way} (h : RowInv ks s w todo todo 0) (hw : From ks s w) : ∀ i, i ≤ ks.length → RowInv ks s w todo (bfsRow ks w todo i) i
  | 0, _ => h
  | i + 1, hi => by
    rw [bfsRow_succ]
    exact (RowInv.row h hw i (by omega)).step hw (by omega)

theorem cod_nonneg {p : List Int} (h : Dg p) : 0 ≤ cod 0 p := by
  have h1 := cod_lo p 0 h
  have h2 := pow8_pos p.length
  omega
theorem Inv.next {ks : List Kn} (h8 : ks.length ≤ 8) {fact s k : Nat} {todo : List Way} (h : Inv ks fact s k todo) {w : Way} (hw : todo[k]? = some w) (hm : w.1.testBit fact = false) : Inv ks fact s (k + 1) (bfsRow ks w todo ks.length) := by
  have hwm : w ∈ todo := List.mem_of_getElem? hw
  have hwf := h.frm w hwm
  have r0 : RowInv ks s w todo todo 0 := ⟨⟨[], by simp⟩, h.frm, h.rise, fun j hj => by omega, fun v hv => h.high k w (Nat.le_refl _) hw v hv⟩
  have r := r0.row hwf ks.length (Nat.le_refl _)
  obtain ⟨new, hn⟩ := r.ext
  have hk : k < todo.length := (List.getElem?_eq_some_iff.1 hw).1
  have old : ∀ j, j ≤ k → (bfsRow ks w todo ks.length)[j]? = todo[j]? := fun j hj => by
    rw [hn, List.getElem?_append_left (by omega)]
  have sup : ∀ v ∈ todo, v ∈ bfsRow ks w todo ks.length := fun v hv => by rw [hn]; exact List.mem_append_left _ hv
  refine ⟨r.frm, sup _ h.zero, r.rise, fun j v hj hv => ?_, fun j v hj hv => ?_, fun j v hj hv u hu => ?_⟩
  · rw [old j (by omega)] at hv
    by_cases e : j = k
    · subst e; rw [hw] at hv; cases hv; exact hm
    · exact h.miss j v (by omega) hv
  · rw [old j (by omega)] at hv
    by_cases e : j = k
    · subst e; rw [hw] at hv; cases hv
      exact fun i hi => r.goes i hi
    · exact fun i hi => (h.goes j v (by omega) hv i hi).more sup
  · have hu' := r.high u hu
    have hlt : cod 0 w.2 < cod 0 v.2 := by
      have hw' : (bfsRow ks w todo ks.length)[k]? = some w := by rw [old k (Nat.le_refl _)]; exact hw
      obtain ⟨a1, a2⟩ := List.getElem?_eq_some_iff.1 hw'
      obtain ⟨b1, b2⟩ := List.getElem?_eq_some_iff.1 hv
      have := List.pairwise_iff_getElem.1 r.rise k j a1 b1 (by omega)
      rw [a2, b2] at this
      exact this
    rw [cod_snoc] at hu' ⊢
    omega

/-- every way is met -/
theorem Inv.met {ks : List Kn} (h8 : ks.length ≤ 8) {fact s k : Nat} {todo : List Way} (h : Inv ks fact s k todo) (n : Nat) : ∀ (q : List Int), q.length = n → valS ks s q →
    (∃ w ∈ todo, w.1 = endS ks s q ∧ cod 0 w.2 ≤ cod 0 q) ∨ ∃ j w, k ≤ j ∧ todo[j]? = some w ∧ cod 0 w.2 ≤ cod 0 q := by
  induction n with
  | zero =>
    intro q hl _
    obtain rfl : q = [] := by simpa using hl
    exact .inl ⟨_, h.zero, rfl, Int.le_refl _⟩
  | succ n ih =>
    intro q hl hv
    obtain ⟨p, i, rfl⟩ : ∃ p i, q = p ++ [i] := by
      rcases List.eq_nil_or_concat q with e | ⟨p, i, e⟩
      · subst e; simp at hl
      · exact ⟨p, i, by simpa using e⟩
    obtain ⟨v1, v2, v3⟩ := valS_snoc.1 hv
    have hpl : p.length = n := by simpa using hl
    have hp0 := cod_nonneg (valS_dg h8 v1)
    rcases ih p hpl v1 with ⟨w, hw, e, l⟩ | ⟨j, w, hj, hw, l⟩
    · obtain ⟨j, hj⟩ := List.getElem?_of_mem hw
      rcases Nat.lt_or_ge j k with hjk | hjk
      · have hg := h.goes j w hjk hj i.toNat (by omega)
        have ei : ((i.toNat : Nat) : Int) = i := by omega
        unfold Goes1 at hg
        rw [ei, e] at hg
        obtain ⟨v, hv', e', l'⟩ := hg v3
        refine .inl ⟨v, hv', by rw [e', endS_snoc], ?_⟩
        rw [cod_snoc] at l' ⊢; omega
      · refine .inr ⟨j, w, hjk, hj, ?_⟩
        rw [cod_snoc]; omega
    · refine .inr ⟨j, w, hj, hw, ?_⟩
      rw [cod_snoc]; omega

theorem Inv.best {ks : List Kn} (h8 : ks.length ≤ 8) {fact s k : Nat} {todo : List Way} (h : Inv ks fact s k todo) {w : Way} (hw : todo[k]? = some w) (hb : w.1.testBit fact = true) : Best ks fact s w.2 := by
  have hf := h.frm w (List.mem_of_getElem? hw)
  have hge : ∀ j v, k ≤ j → todo[j]? = some v → cod 0 w.2 ≤ cod 0 v.2 := fun j v hj hv => by
    by_cases e : j = k
    · subst e; rw [hw] at hv; cases hv; omega
    · obtain ⟨a1, a2⟩ := List.getElem?_eq_some_iff.1 hw
      obtain ⟨b1, b2⟩ := List.getElem?_eq_some_iff.1 hv
      have := List.pairwise_iff_getElem.1 h.rise k j a1 b1 (by omega)
      rw [a2, b2] at this
      omega
  refine ⟨hf.1, by rw [hf.2]; exact hb, fun q hv hq => ?_⟩
  rcases h.met h8 q.length q rfl hv with ⟨v, hv', e, l⟩ | ⟨j, v, hj, hv', l⟩
  · obtain ⟨j, hj⟩ := List.getElem?_of_mem hv'
    rcases Nat.lt_or_ge j k with hjk | hjk
    · have := h.miss j v hjk hj
      rw [e, hq] at this; cases this
    · have := hge j v hjk hj; omega
  · have := hge j v hj hv'; omega
theorem Inv.none {ks : List Kn} (h8 : ks.length ≤ 8) {fact s k : Nat} {todo : List Way} (h : Inv ks fact s k todo) (hk : todo.length ≤ k) (q : List Int) (hv : valS ks s q) : ¬ (endS ks s q).testBit fact = true := by
  intro hq
  rcases h.met h8 q.length q rfl hv with ⟨v, hv', e, l⟩ | ⟨j, v, hj, hv', l⟩
  · obtain ⟨j, hj⟩ := List.getElem?_of_mem hv'
    have hlt := (List.getElem?_eq_some_iff.1 hj).1
    have := h.miss j v (by omega) hj
    rw [e, hq] at this; cases this
  · have hlt := (List.getElem?_eq_some_iff.1 hv').1
    omega
theorem bfs_best {ks : List Kn} (hk : KnOK ks) {fact s : Nat} : ∀ (fuel k : Nat) (todo : List Way), 257 ≤ fuel + k → Ways todo → Inv ks fact s k todo →
    (∀ p, bfs ks fact fuel k todo = some p → Best ks fact s p) ∧ (bfs ks fact fuel k todo = none → ∀ q, valS ks s q → ¬ (endS ks s q).testBit fact = true)
  | 0, k, todo, hf, hw, h => by
    have := hw.length
    exact ⟨fun p hp => by simp [bfs] at hp, fun _ => h.none hk.1 (by omega)⟩
  | fuel + 1, k, todo, hf, hw, h => by
    cases hg : todo[k]? with
    | none =>
      rw [List.getElem?_eq_none_iff] at hg
      exact ⟨fun p hp => by simp [bfs, hg] at hp, fun _ => h.none hk.1 hg⟩
    | some w =>
      by_cases hb : w.1.testBit fact = true
      · refine ⟨fun p hp => ?_, fun hn => ?_⟩
        · simp [bfs, hg, hb] at hp
          subst hp
          exact h.best hk.1 hg hb
        · simp [bfs, hg, hb] at hn
      · have hm : w.1.testBit fact = false := by simpa using hb
        have hwm := List.mem_of_getElem? hg
        have := bfs_best hk fuel (k + 1) (bfsRow ks w todo ks.length) (by omega) (Ways.row hk hw ⟨hw.lt w hwm, hw.len w hwm⟩ _ (Nat.le_refl _)).1 (h.next hk.1 hg hm)
        have e : bfs ks fact (fuel + 1) k todo = bfs ks fact fuel (k + 1) (bfsRow ks w todo ks.length) := by
          conv => lhs; unfold bfs
          rw [hg]; simp [hm]
        rw [e]; exact this
theorem inv_start (ks : List Kn) (fact s : Nat) : Inv ks fact s 0 [(s, [])] where
  frm w hw := by simp at hw; subst hw; exact ⟨trivial, rfl⟩
  zero := by simp
  rise := by simp [Rise]
  miss j w hj := by omega
  goes j w hj := by omega
  high j w _ hw v hv := by
    have := List.mem_of_getElem? hw
    simp at this hv
    subst this; subst hv
    show cod 0 [] < cod 0 ([] ++ [(0 : Int)])
    decide
theorem bfs_eq {n : Int} {l : Bk} (h : check n l = 0) {fact s : Nat} (hs : s < 2 ^ n.toNat) : bfs (knU l l.length) fact 300 0 [(s, [])] = idsTop (knU l l.length) fact n.toNat s := by
  have hk := knU_OK h
  have hn := check_range h
  have h6 := pow_le64 hn.2
  have hw : Ways [(s, ([] : List Int))] := ⟨by simp; omega, by simp, by simp⟩
  obtain ⟨b1, b2⟩ := bfs_best hk 300 0 [(s, [])] (by omega) hw (inv_start _ fact s)
  cases hb : bfs (knU l l.length) fact 300 0 [(s, [])] with
  | some p =>
    have hp := b1 p hb
    cases hi : idsTop (knU l l.length) fact n.toNat s with
    | some q => rw [Best.unique hk.1 hp (idsTop_best hk.1 hi)]
    | none => exact absurd hp.2.1 (idsTop_none hk.1 (by omega) (knU_ok h) hs hi p hp.1)
  | none =>
    cases hi : idsTop (knU l l.length) fact n.toNat s with
    | some q =>
      have hq := idsTop_best hk.1 hi
      exact absurd hq.2.1 (b2 hb q hq.1)
    | none => rfl
theorem stepsM_eq (n : Int) (l : Bk) (set : List Int) (fact : Int) : stepsM n l set fact = stepsTop n l set fact := by
  unfold stepsM stepsTop stepsErr
  by_cases ha : asked n l set = 0
  · have hc := (asked_ok ha).1
    have hl := (asked_ok ha).2
    have hn := check_range hc
    by_cases hf : fact < 0 ∨ n ≤ fact
    · have : inI fact 0 (n - 1) = false := by unfold inI; simp; omega
      simp [ha, hf, this]
    · have : inI fact 0 (n - 1) = true := by unfold inI; simp; omega
      have e0 : lst (maskOf set) = set := lst_maskOf hn.2 hl
      have hlt := maskOf_lt hl
      have key : (List.range (n.toNat + 1)).findSome? (topAt n l set fact) = idsTop (knU l l.length) fact.toNat n.toNat (maskOf set) := by
        unfold idsTop
        refine findSome_congr fun m _ => ?_
        obtain ⟨k1, k2⟩ := stepsR_ids hc (show 0 ≤ fact by omega) (show fact < n by omega) m (maskOf set) [] hlt
        rw [e0] at k1 k2
        unfold topAt
        rw [k1]
        cases hi : ids (knU l l.length) fact.toNat m (maskOf set) with
        | none => rfl
        | some q => simp [k2 q hi]
      unfold topAt at key
      rw [key, openedM_ok hc, show askedM n l set = maskOf set by simp [askedM, ha], bfs_eq hc hlt]
      simp only [ha, hf, this]
      cases idsTop (knU l l.length) fact.toNat n.toNat (maskOf set) <;> rfl
  · simp [ha]
theorem stepsR_length (n : Int) (l : Bk) (fact : Int) : ∀ (m : Nat) (set begun : List Int), (stepsR n l fact m set begun).1.length ≤ begun.length + m
  | 0, set, begun => by simp [stepsR]
  | m + 1, set, begun => by
    have hAt : ∀ i r, stepAt n l fact m set begun i = some r → r.length ≤ begun.length + (m + 1) := by
      intro i r h
      unfold stepAt at h
      split at h
      · split at h
        · have := stepsR_length n l fact m (joined n set (sAt l i).2) (begun ++ [(i : Int)])
          simp only [Option.some.injEq] at h
          rw [h, List.length_append] at this
          simp at this; omega
        · cases h
      · cases h
    cases hf : (List.range l.length).findSome? (stepAt n l fact m set begun) with
    | some r =>
      obtain ⟨k, _, hk, _⟩ := findSome_first hf
      unfold stepAt at hf
      unfold stepsR
      rw [hf]
      exact hAt k r hk
    | none =>
      unfold stepAt at hf
      unfold stepsR
      rw [hf]; simp
theorem stepsTop_length (n : Int) (l : Bk) (set : List Int) (fact : Int) : (stepsTop n l set fact).1.length ≤ 8 := by
  by_cases h : stepsErr n l set fact = 0
  · have ha : asked n l set = 0 := by
      unfold stepsErr at h
      split at h
      · assumption
      · exact h
    have hn := asked_range ha
    cases hf : (List.range (n.toNat + 1)).findSome? (topAt n l set fact) with
    | some r =>
      obtain ⟨k, hk, e, _⟩ := findSome_first hf
      unfold topAt at hf e
      have := stepsR_length n l fact k set []
      unfold stepsTop
      rw [h, hf]
      split at e
      · simp only [Option.some.injEq] at e
        rw [e] at this
        simp at this ⊢; omega
      · cases e
    | none =>
      unfold topAt at hf
      unfold stepsTop
      rw [h, hf]; simp
  · rw [stepsTop_err h]; simp
theorem goesTop_length (n : Int) (l : Bk) (set steps : List Int) : (goesTop n l set steps).1.length ≤ 8 := by
  rw [← goTop_eq]
  unfold goTop
  split
  · simp
  · split
    · simp
    · exact lst_length _
end Go.V.R6

namespace Go.V.R6
theorem rl_all (ks : List Kn) : rl ks (-1) = ks.map fun k => (k.1, k.2.1) := by
  unfold rl
  rw [List.filter_eq_self.2]
  intro k _
  simp only [bne_iff_ne, ne_eq]; omega
theorem self_range (l : Bk) : l = (List.range l.length).map (sAt l) := by
  refine List.ext_getElem (by simp) fun i h1 h2 => ?_
  simp [sAt, h1]
theorem closed_lst {n : Int} {l : Bk} (h : check n l = 0) {f : Nat} : closedR l (lst f) = closedM (rl (knU l l.length) (-1)) f := by
  have hn := check_range h
  have h6 := pow_le64 hn.2
  rw [rl_all]
  unfold closedR closedM knU
  conv => lhs; rw [self_range l]
  rw [List.map_map, List.all_map, List.all_map]
  rw [Bool.eq_iff_iff, List.all_eq_true, List.all_eq_true]
  refine forall_congr' fun i => ?_
  by_cases hi : i ∈ List.range l.length
  · have hi' := List.mem_range.1 hi
    obtain ⟨e1, e2, l1, l2⟩ := sent_lst h hi'
    simp only [hi, true_implies, Function.comp]
    rw [e1, e2, part_lst (show (knAt l i).1 < 256 by omega), part_lst (show (knAt l i).2.1 < 256 by omega)]
  · simp [hi]
theorem rl_okN {n : Int} {l : Bk} (h : check n l = 0) : Ok (rl (knU l l.length) (-1)) n.toNat := by
  intro r hr
  rw [rl_all] at hr
  obtain ⟨k, hk, rfl⟩ := List.mem_map.1 hr
  exact knU_ok h k hk
theorem isCl_eq {n : Int} {l : Bk} (h : check n l = 0) {f : Nat} (hf : f < 256) : isCl (knU l l.length) f = closedR l (lst f) := by
  rw [closed_lst h]
  exact clo_beq (rl_ok (knU_OK h) (-1)) hf
theorem closed_eq (n : Int) (l : Bk) (set : List Int) : (decide (asked n l set = 0) && fol (openedM n l).2 (-1) (askedM n l set) == askedM n l set) = (decide (asked n l set = 0) && closedR l set) := by
  by_cases ha : asked n l set = 0
  · have hc := (asked_ok ha).1
    have hl := (asked_ok ha).2
    have hn := check_range hc
    have h6 := maskOf_lt64 hn.2 hl
    have e := isCl_eq hc (show maskOf set < 256 by omega)
    rw [lst_maskOf hn.2 hl] at e
    rw [← e, openedM_ok hc, show askedM n l set = maskOf set by simp [askedM, ha]]
    rfl
  · simp [ha]

/-! ### all sets -/
theorem sets_dec : ∀ n : Nat, n < 7 → 0 < n → setsA n = (isort cmpF (List.range (2 ^ n))).map lst := by decide +kernel
theorem setsA_eq {n : Int} (h1 : 1 ≤ n) (h6 : n ≤ 6) : setsA n = (isort cmpF (List.range (2 ^ n.toNat))).map lst := by
  have := sets_dec n.toNat (by omega) (by omega)
  rwa [show ((n.toNat : Nat) : Int) = n by omega] at this
theorem isort_filter {l : List Nat} (h : ∀ x ∈ l, x < 256) (p : Nat → Bool) : (isort cmpF l).filter p = isort cmpF (l.filter p) :=
  isort_unique (cmpF_tot fun x hx => h x (List.mem_filter.1 hx).1) ((isort_perm cmpF l).filter p) ((isort_sorted (cmpF_tot h)).filter p)
theorem allR_eq {n : Int} {l : Bk} (h : check n l = 0) : allR n l = (sortedM (2 ^ n.toNat - 1) (isCl (knU l l.length))).map lst := by
  have hn := check_range h
  have h6 := pow_le64 hn.2
  have hp := Nat.two_pow_pos n.toNat
  unfold allR sortedM uptoF
  rw [setsA_eq hn.1 hn.2, List.filter_map, show 2 ^ n.toNat - 1 + 1 = 2 ^ n.toNat by omega]
  congr 1
  rw [← isort_filter (fun x hx => by have := List.mem_range.1 hx; omega)]
  refine List.filter_congr fun x hx => ?_
  have := List.mem_range.1 ((isort_perm cmpF _).mem_iff.1 hx)
  exact (isCl_eq h (by omega)).symm
theorem all_eq (n : Int) (l : Bk) : allM n l = (if check n l = 0 then allR n l else []) := by
  unfold allM
  by_cases h : check n l = 0
  · rw [if_pos h, if_pos h, allR_eq h]
  · rw [if_neg h, if_neg h]
theorem allR_mem {n : Int} {l : Bk} (h : check n l = 0) {c : List Int} : c ∈ allR n l ↔ ∃ g, g < 2 ^ n.toNat ∧ closedM (rl (knU l l.length) (-1)) g = true ∧ c = lst g := by
  have hn := check_range h
  have h6 := pow_le64 hn.2
  have hp := Nat.two_pow_pos n.toNat
  rw [allR_eq h, List.mem_map]
  constructor
  · rintro ⟨g, hg, rfl⟩
    obtain ⟨h1, h2⟩ := sortedM_mem.1 hg
    rw [isCl_eq h (by omega), closed_lst h] at h2
    exact ⟨g, by omega, h2, rfl⟩
  · rintro ⟨g, h1, h2, rfl⟩
    refine ⟨g, sortedM_mem.2 ⟨by omega, ?_⟩, rfl⟩
    rw [isCl_eq h (by omega), closed_lst h]; exact h2

/-! ### what follows -/
theorem followsR_eq {n : Int} {l : Bk} (h : check n l = 0) {f : Nat} (hf : f < 2 ^ n.toNat) : followsR n l (lst f) = lst (fol (knU l l.length) (-1) f) := by
  have hn := check_range h
  have h6 := pow_le64 hn.2
  have hL := rl_okN h
  have hfull := closed_full hL
  have hp := Nat.two_pow_pos n.toNat
  refine sorted_ext ?_ (lst_sorted _) fun x => ?_
  · exact List.Pairwise.filter _ (range_sorted _)
  · unfold followsR followsUpto
    rw [List.mem_filter, List.mem_map, lst_mem]
    constructor
    · rintro ⟨⟨i, hi, rfl⟩, hx⟩
      have hi := List.mem_range.1 hi
      rw [List.all_eq_true] at hx
      refine ⟨i, by omega, clo_bit.2 ⟨by omega, fun c hc hs hcl => ?_⟩, rfl⟩
      have hg : c &&& (2 ^ n.toNat - 1) < 2 ^ n.toNat := by
        have := sub_le (and_sub_right c (2 ^ n.toNat - 1)); omega
      have hin := hx _ ((allR_mem h).2 ⟨c &&& (2 ^ n.toNat - 1), hg, closed_and hcl hfull, rfl⟩)
      rw [part_lst (by omega), sub_and hs (sub_full hf)] at hin
      simp only [Bool.not_true, Bool.false_or] at hin
      rw [show Int.ofNat i = (i : Int) from rfl, lst_contains (by omega) (by omega)] at hin
      rw [Int.toNat_natCast] at hin
      exact sub_iff.1 (and_sub_left c _) i hin
    · rintro ⟨i, h8, hi, rfl⟩
      have hin : i < n.toNat := by
        have := clo_min (n := 8) (show 2 ^ n.toNat - 1 < 2 ^ 8 by omega) (sub_full hf) hfull
        have := sub_iff.1 this i hi
        rw [full_testBit] at this
        simpa using this
      refine ⟨⟨i, List.mem_range.2 hin, rfl⟩, List.all_eq_true.2 fun c hc => ?_⟩
      obtain ⟨g, hg, hcl, rfl⟩ := (allR_mem h).1 hc
      rw [part_lst (by omega), lst_contains (by omega) (by omega)]
      by_cases hs : sub f g = true
      · have := sub_iff.1 (clo_min (n := 8) (show g < 2 ^ 8 by omega) hs hcl) i hi
        simp [this]
      · simp [hs]
theorem follows_eq (n : Int) (l : Bk) (set : List Int) : (if asked n l set = 0 then lst (fol (openedM n l).2 (-1) (askedM n l set)) else []) = (if asked n l set = 0 then followsR n l set else []) := by
  by_cases ha : asked n l set = 0
  · have hc := (asked_ok ha).1
    have hl := (asked_ok ha).2
    have hn := check_range hc
    rw [if_pos ha, if_pos ha, openedM_ok hc, show askedM n l set = maskOf set by simp [askedM, ha]]
    rw [← followsR_eq hc (maskOf_lt hl), lst_maskOf hn.2 hl]
  · rw [if_neg ha, if_neg ha]
theorem followsR_length {n : Int} (hn : n ≤ 6) (l : Bk) (set : List Int) : (followsR n l set).length ≤ 6 := by
  have := followsUpto_length n l set n.toNat
  unfold followsR; omega
end Go.V.R6

namespace Go.V.R6
abbrev Op := List Int × List Int
def openAt (s : List Int) (o : Op) : Bool := !(part o.1 s) || part o.2 s
def isR (l : Bk) (size : Nat) (s : List Int) : Bool := (s.length == size) && !(closedR l s)
def opStepR (n : Int) (l : Bk) (size : Nat) (os : List Op) (s : List Int) : List Op := if (isR l size s && os.all (openAt s)) = true then os ++ [(s, followsR n l s)] else os
def opRowR (n : Int) (l : Bk) (size : Nat) (os : List Op) (k : Nat) : List Op := ((setsA n).take k).foldl (opStepR n l size) os
def opUptoR (n : Int) (l : Bk) : Nat → List Op
  | 0 => []
  | s + 1 => opRowR n l s (opUptoR n l s) (setsA n).length
def opensR (n : Int) (l : Bk) : List Op := opUptoR n l (n.toNat + 1)
theorem opUptoR_succ (n : Int) (l : Bk) (s : Nat) : opUptoR n l (s + 1) = opRowR n l s (opUptoR n l s) (setsA n).length := rfl
theorem opRowR_zero (n : Int) (l : Bk) (size : Nat) (os : List Op) : opRowR n l size os 0 = os := rfl
theorem opRowR_succ (n : Int) (l : Bk) (size : Nat) (os : List Op) {k : Nat} {x : List Int} (h : (setsA n)[k]? = some x) : opRowR n l size os (k + 1) = opStepR n l size (opRowR n l size os k) x := by
  unfold opRowR; rw [take_succ_of h, List.foldl_append]; rfl
theorem opStepR_no {n : Int} {l : Bk} {s : Nat} {qs : List Op} {x : List Int} {j : Nat} (h : (isR l s x && (qs.take j).all (openAt x)) = false) : opStepR n l s qs x = qs := by
  unfold opStepR
  rw [if_neg]
  intro h2
  rw [Bool.and_eq_true] at h2
  rw [h2.1, Bool.true_and] at h
  have : (qs.take j).all (openAt x) = true := List.all_eq_true.2 fun o ho => List.all_eq_true.1 h2.2 o (List.mem_of_mem_take ho)
  rw [this] at h; cases h
structure OpsOK (os : List Op) (k : Nat) : Prop where
  len : os.length ≤ k
  row : ∀ o ∈ os, o.1.length ≤ 6 ∧ o.2.length ≤ 6
theorem OpsOK.step {n : Int} (hn : n ≤ 6) {l : Bk} {size : Nat} {os : List Op} {k : Nat} (h : OpsOK os k) {x : List Int} (hx : x.length ≤ 6) : OpsOK (opStepR n l size os x) (k + 1) := by
  unfold opStepR
  split
  · refine ⟨by have := h.len; simp; omega, fun o ho => ?_⟩
    rcases List.mem_append.1 ho with ho | ho
    · exact h.row o ho
    · simp at ho; subst ho; exact ⟨hx, followsR_length hn l x⟩
  · exact ⟨by have := h.len; omega, h.row⟩
theorem OpsOK.rowN {n : Int} (hn : n ≤ 6) {l : Bk} {size : Nat} {os : List Op} {m : Nat} (h : OpsOK os m) : ∀ k, k ≤ (setsA n).length → OpsOK (opRowR n l size os k) (m + k)
  | 0, _ => h
  | k + 1, hk => by
    have hx : (setsA n)[k]? = some (setsA n)[k] := List.getElem?_eq_getElem (by omega)
    rw [opRowR_succ n l size os hx]
    exact (OpsOK.rowN hn h k (by omega)).step hn (setsA_row hn _ (List.getElem_mem _))
theorem OpsOK.upto {n : Int} (hn : n ≤ 6) (l : Bk) : ∀ s, OpsOK (opUptoR n l s) (s * 117649)
  | 0 => ⟨by simp [opUptoR], by simp [opUptoR]⟩
  | s + 1 => by
    have h := (OpsOK.upto hn l s).rowN (l := l) (size := s) hn (setsA n).length (Nat.le_refl _)
    have hl : (setsA n).length ≤ 117649 := setsR_length hn 6 [] (by simp [fromR])
    exact ⟨by have := h.len; unfold opUptoR; omega, h.row⟩
def atR (L : List (List Int)) (set : List Int) : Int :=
  match (List.range L.length).find? (fun i => ((L.getD i []).length == set.length) && part (L.getD i []) set) with
  | some i => i
  | none => -1
def atP (L : List (List Int)) (set : List Int) (i : Nat) : Bool := ((L.getD i []).length == set.length) && part (L.getD i []) set
theorem atR_none {L : List (List Int)} {set : List Int} (h : ∀ i, i < L.length → atP L set i = false) : atR L set = -1 := by
  have : (List.range L.length).find? (atP L set) = none := by
    rw [List.find?_eq_none]; intro i hi; rw [h i (List.mem_range.1 hi)]; decide
  unfold atP at this
  unfold atR; rw [this]
theorem find_hit {p : Nat → Bool} {n k : Nat} (h : ∀ j, j < k → p j = false) (hk : k < n) (hp : p k = true) : (List.range n).find? p = some k := by
  obtain ⟨m, rfl⟩ : ∃ m, n = k + 1 + m := ⟨n - (k + 1), by omega⟩
  rw [List.range_add, List.find?_append, List.range_succ, List.find?_append, List.find?_eq_none.2 (fun x hx => by rw [h x (List.mem_range.1 hx)]; decide)]
  simp [hp]
theorem atR_hit {L : List (List Int)} {set : List Int} {k : Nat} (h : ∀ i, i < k → atP L set i = false) (hk : k < L.length) (hp : atP L set k = true) : atR L set = k := by
  have : (List.range L.length).find? (atP L set) = some k := find_hit h hk hp
  unfold atP at this
  unfold atR; rw [this]
theorem atR_range (L : List (List Int)) (set : List Int) : atR L set = -1 ∨ ∃ k : Nat, k < L.length ∧ atR L set = k ∧ atP L set k = true := by
  cases h : (List.range L.length).find? (atP L set) with
  | none =>
    refine .inl (atR_none fun i hi => ?_)
    have := List.find?_eq_none.1 h i (List.mem_range.2 hi)
    simpa using this
  | some k =>
    have h1 := List.mem_range.1 (List.mem_of_find?_eq_some h)
    have h2 := List.find?_some h
    refine .inr ⟨k, h1, ?_, h2⟩
    unfold atP at h
    unfold atR; rw [h]
/-- a sentence of the base -/
def baseItem (o f : List (List Int)) (s : List Int) : Option (List Int × List Int) :=
  if atR o s < 0 then none else some (s, (f.getD (atR o s).toNat []).filter fun x => !(s.contains x))
def baseR (n : Int) (l : Bk) : Bk := (setsA n).filterMap (baseItem ((opensR n l).map (·.1)) ((opensR n l).map (·.2)))
theorem baseR_length {n : Int} (hn : n ≤ 6) (l : Bk) : (baseR n l).length ≤ 117649 := by
  unfold baseR
  refine Nat.le_trans (List.length_filterMap_le _ _) ?_
  exact setsR_length hn 6 [] (by simp [fromR])
end Go.V.R6
