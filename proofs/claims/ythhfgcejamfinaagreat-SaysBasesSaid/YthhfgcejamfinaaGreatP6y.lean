/-
  Shortest steps: the program's search finds what the reference finds. Conditions: none.
-/
import Derived.Test.YthhfgcejamfinaaGreatP6x
set_option linter.unusedVariables false
set_option linter.unusedSimpArgs false
set_option linter.deprecated false
namespace Go.V.R6

/-! ### steps as numbers: shorter ones first, then smaller ones -/
def cod (c : Int) (p : List Int) : Int := p.foldl (fun c i => 8 * c + i + 1) c
def Dg (p : List Int) : Prop := ∀ i ∈ p, 0 ≤ i ∧ i < 8
theorem cod_cons (c i : Int) (p : List Int) : cod c (i :: p) = cod (8 * c + i + 1) p := rfl
theorem cod_snoc (c i : Int) (p : List Int) : cod c (p ++ [i]) = 8 * cod c p + i + 1 := by unfold cod; rw [List.foldl_append]; rfl
theorem pow8_pos (m : Nat) : (0 : Int) < 8 ^ m := Int.pow_pos (by omega)
theorem cod_lo : ∀ (p : List Int) (c : Int), Dg p → 8 ^ p.length * (7 * c + 1) ≤ 7 * cod c p + 1
  | [], c, _ => by simp [cod]
  | i :: p, c, h => by
    have hi := h i (by simp)
    have ih := cod_lo p (8 * c + i + 1) (fun j hj => h j (by simp [hj]))
    rw [cod_cons, List.length_cons, Int.pow_succ]
    refine Int.le_trans ?_ ih
    rw [Int.mul_assoc]
    exact Int.mul_le_mul_of_nonneg_left (by omega) (Int.le_of_lt (pow8_pos _))
theorem cod_hi : ∀ (p : List Int) (c : Int), Dg p → 7 * cod c p + 8 ≤ 8 ^ p.length * (7 * c + 8)
  | [], c, _ => by simp [cod]
  | i :: p, c, h => by
    have hi := h i (by simp)
    have ih := cod_hi p (8 * c + i + 1) (fun j hj => h j (by simp [hj]))
    rw [cod_cons, List.length_cons, Int.pow_succ]
    refine Int.le_trans ih ?_
    rw [Int.mul_assoc]
    exact Int.mul_le_mul_of_nonneg_left (by omega) (Int.le_of_lt (pow8_pos _))
theorem cod_lt {p q : List Int} {c d : Int} (hp : Dg p) (hq : Dg q) (hl : p.length = q.length) (h : c < d) : cod c p < cod d q := by
  have h1 := cod_hi p c hp
  have h2 := cod_lo q d hq
  rw [← hl] at h2
  have h3 : (8 : Int) ^ p.length * (7 * c + 8) ≤ 8 ^ p.length * (7 * d + 1) := Int.mul_le_mul_of_nonneg_left (by omega) (Int.le_of_lt (pow8_pos _))
  omega
theorem pow8_mono {a b : Nat} (h : a ≤ b) : (8 : Int) ^ a ≤ 8 ^ b := by
  obtain ⟨k, rfl⟩ : ∃ k, b = a + k := ⟨b - a, by omega⟩
  rw [Int.pow_add]
  have := pow8_pos k
  have h2 := Int.mul_le_mul_of_nonneg_left (show (1 : Int) ≤ 8 ^ k by omega) (Int.le_of_lt (pow8_pos a))
  omega
theorem cod_short {p q : List Int} (hp : Dg p) (hq : Dg q) (h : p.length < q.length) : cod 0 p < cod 0 q := by
  have h1 := cod_hi p 0 hp
  have h2 := cod_lo q 0 hq
  have h3 := pow8_mono (show p.length + 1 ≤ q.length from h)
  rw [Int.pow_succ] at h3
  omega
theorem cod_inj' : ∀ {p q : List Int} {c : Int}, Dg p → Dg q → p.length = q.length → cod c p = cod c q → p = q
  | [], [], _, _, _, _, _ => rfl
  | [], _ :: _, _, _, _, h, _ => by simp at h
  | _ :: _, [], _, _, _, h, _ => by simp at h
  | i :: p, j :: q, c, hp, hq, hl, h => by
    have hp' : Dg p := fun x hx => hp x (by simp [hx])
    have hq' : Dg q := fun x hx => hq x (by simp [hx])
    have hl' : p.length = q.length := by simpa using hl
    rw [cod_cons, cod_cons] at h
    rcases Int.lt_trichotomy i j with e | e | e
    · have := cod_lt hp' hq' hl' (show 8 * c + i + 1 < 8 * c + j + 1 by omega); omega
    · subst e; rw [cod_inj' hp' hq' hl' h]
    · have := cod_lt hq' hp' hl'.symm (show 8 * c + j + 1 < 8 * c + i + 1 by omega); omega
theorem cod_inj {p q : List Int} (hp : Dg p) (hq : Dg q) (h : cod 0 p = cod 0 q) : p = q := by
  rcases Nat.lt_trichotomy p.length q.length with e | e | e
  · have := cod_short hp hq e; omega
  · exact cod_inj' hp hq e h
  · have := cod_short hq hp e; omega

/-! ### steps that can be carried out -/
abbrev kn (ks : List Kn) (i : Int) : Kn := ks.getD i.toNat (0, 0, 0)
def endS (ks : List Kn) (s : Nat) (p : List Int) : Nat := p.foldl (fun s i => s ||| (kn ks i).2.1) s
def valS (ks : List Kn) : Nat → List Int → Prop
  | _, [] => True
  | s, i :: p => (0 ≤ i ∧ i < ks.length) ∧ sub (kn ks i).1 s = true ∧ valS ks (s ||| (kn ks i).2.1) p
def strS (ks : List Kn) : Nat → List Int → Prop
  | _, [] => True
  | s, i :: p => sub (kn ks i).2.1 s = false ∧ strS ks (s ||| (kn ks i).2.1) p
theorem endS_cons (ks : List Kn) (s : Nat) (i : Int) (p : List Int) : endS ks s (i :: p) = endS ks (s ||| (kn ks i).2.1) p := rfl
theorem endS_snoc (ks : List Kn) (s : Nat) (i : Int) (p : List Int) : endS ks s (p ++ [i]) = endS ks s p ||| (kn ks i).2.1 := by unfold endS; rw [List.foldl_append]; rfl
theorem valS_snoc {ks : List Kn} {i : Int} : ∀ {p : List Int} {s : Nat}, valS ks s (p ++ [i]) ↔ valS ks s p ∧ (0 ≤ i ∧ i < ks.length) ∧ sub (kn ks i).1 (endS ks s p) = true
  | [], s => by simp [valS, endS]
  | j :: p, s => by
    rw [List.cons_append, valS, valS, valS_snoc, endS_cons]
    simp only [and_assoc]
theorem valS_dg {ks : List Kn} (h8 : ks.length ≤ 8) : ∀ {p : List Int} {s : Nat}, valS ks s p → Dg p
  | [], _, _ => by intro i hi; simp at hi
  | j :: p, s, h => by
    rw [valS] at h
    intro i hi
    rcases List.mem_cons.1 hi with e | e
    · subst e; omega
    · exact valS_dg h8 h.2.2 i e
theorem strict_of {ks : List Kn} : ∀ (q : List Int) (s : Nat), valS ks s q → ∃ q', valS ks s q' ∧ strS ks s q' ∧ endS ks s q' = endS ks s q ∧ (q' = q ∨ q'.length < q.length)
  | [], s, _ => ⟨[], trivial, trivial, rfl, .inl rfl⟩
  | i :: p, s, h => by
    rw [valS] at h
    obtain ⟨q', h1, h2, h3, h4⟩ := strict_of p _ h.2.2
    by_cases hs : sub (kn ks i).2.1 s = true
    · have e := or_eq_of_sub hs
      rw [e] at h1 h2 h3
      refine ⟨q', h1, h2, ?_, .inr ?_⟩
      · rw [endS_cons, e]; exact h3
      · rcases h4 with h4 | h4
        · subst h4; simp
        · simp; omega
    · refine ⟨i :: q', ⟨h.1, h.2.1, h1⟩, ⟨by simpa using hs, h2⟩, by rw [endS_cons, endS_cons, h3], ?_⟩
      rcases h4 with h4 | h4
      · subst h4; exact .inl rfl
      · exact .inr (by simpa using h4)
theorem oc8_grow : ∀ a < 64, ∀ b < 64, sub b a = false → oc8 a < oc8 (a ||| b) := by decide +kernel
theorem oc8_bound : ∀ n ≤ 6, ∀ a < 2 ^ n, oc8 a ≤ n := by decide +kernel
theorem strict_len {ks : List Kn} {n : Nat} (hn : n ≤ 6) (hk : ∀ k ∈ ks, k.1 < 2 ^ n ∧ k.2.1 < 2 ^ n) : ∀ (q : List Int) (s : Nat), s < 2 ^ n → valS ks s q → strS ks s q → q.length + oc8 s ≤ n
  | [], s, hs, _, _ => by simpa using oc8_bound n hn s hs
  | i :: p, s, hs, hv, ht => by
    rw [valS] at hv
    rw [strS] at ht
    have hi : i.toNat < ks.length := by omega
    have h2 : (kn ks i).2.1 < 2 ^ n := by
      have := hk ks[i.toNat] (List.getElem_mem _)
      simp only [kn, List.getD_eq_getElem?_getD, List.getElem?_eq_getElem hi, Option.getD_some]
      exact this.2
    have h64 : 2 ^ n ≤ 64 := Nat.le_trans (Nat.pow_le_pow_right (by omega) hn) (by decide)
    have := strict_len hn hk p _ (Nat.or_lt_two_pow hs h2) hv.2.2 ht.2
    have := oc8_grow s (by omega) _ (show (kn ks i).2.1 < 64 by omega) ht.1
    simp; omega
/-- the first steps to a fact -/
def Best (ks : List Kn) (fact s : Nat) (p : List Int) : Prop := valS ks s p ∧ (endS ks s p).testBit fact = true ∧ ∀ q, valS ks s q → (endS ks s q).testBit fact = true → cod 0 p ≤ cod 0 q
theorem Best.unique {ks : List Kn} (h8 : ks.length ≤ 8) {fact s : Nat} {p q : List Int} (hp : Best ks fact s p) (hq : Best ks fact s q) : p = q := by
  have h1 := hp.2.2 q hq.1 hq.2.1
  have h2 := hq.2.2 p hp.1 hp.2.1
  exact cod_inj (valS_dg h8 hp.1) (valS_dg h8 hq.1) (by omega)

/-! ### the reference's way: so many steps, tried in order -/
def idsAt (ks : List Kn) (r : Nat → Option (List Int)) (s i : Nat) : Option (List Int) :=
  if sub (kn ks i).1 s = true ∧ sub (kn ks i).2.1 s = false then (r (s ||| (kn ks i).2.1)).map ((i : Int) :: ·) else none
def ids (ks : List Kn) (fact : Nat) : Nat → Nat → Option (List Int)
  | 0, s => if s.testBit fact = true then some [] else none
  | m + 1, s => (List.range ks.length).findSome? (idsAt ks (ids ks fact m) s)
theorem findSome_congr {α β : Type} {f g : α → Option β} : ∀ {l : List α}, (∀ x ∈ l, f x = g x) → l.findSome? f = l.findSome? g
  | [], _ => rfl
  | x :: l, h => by
    rw [List.findSome?_cons, List.findSome?_cons, h x (by simp), findSome_congr (fun y hy => h y (by simp [hy]))]
theorem findSome_map {α β γ : Type} (g : α → Option β) (h : β → γ) : ∀ (l : List α), l.findSome? (fun x => (g x).map h) = (l.findSome? g).map h
  | [] => rfl
  | x :: l => by
    rw [List.findSome?_cons, List.findSome?_cons, findSome_map g h l]
    cases g x <;> rfl
theorem findSome_first {β : Type} {f : Nat → Option β} : ∀ {n : Nat} {b : β}, (List.range n).findSome? f = some b → ∃ k, k < n ∧ f k = some b ∧ ∀ j, j < k → f j = none
  | 0, b, h => by simp at h
  | n + 1, b, h => by
    rw [List.range_succ, List.findSome?_append] at h
    cases h1 : (List.range n).findSome? f with
    | some c =>
      rw [h1] at h
      obtain ⟨k, h2, h3, h4⟩ := findSome_first h1
      simp at h
      subst h
      exact ⟨k, by omega, h3, h4⟩
    | none =>
      rw [h1] at h
      rw [List.findSome?_eq_none_iff] at h1
      refine ⟨n, by omega, ?_, fun j hj => h1 j (List.mem_range.2 hj)⟩
      rw [List.findSome?_cons] at h
      cases hf : f n with
      | none => rw [hf] at h; simp at h
      | some c => rw [hf] at h; simpa using h
theorem stepsR_ids {n : Int} {l : Bk} (h : check n l = 0) {fact : Int} (h0 : 0 ≤ fact) (h8 : fact < n) : ∀ (m s : Nat) (begun : List Int), s < 2 ^ n.toNat →
    ((stepsR n l fact m (lst s) begun).2 = (ids (knU l l.length) fact.toNat m s).isSome) ∧ ∀ q, ids (knU l l.length) fact.toNat m s = some q → (stepsR n l fact m (lst s) begun).1 = begun ++ q
  | 0, s, begun, hs => by
    have hn := check_range h
    unfold stepsR ids
    rw [lst_contains h0 (by omega)]
    by_cases hb : s.testBit fact.toNat = true
    · simp [hb]
    · simp [hb]
  | m + 1, s, begun, hs => by
    have hn := check_range h
    have h6 := pow_le64 hn.2
    have key : (List.range l.length).findSome? (stepAt n l fact m (lst s) begun) = (ids (knU l l.length) fact.toNat (m + 1) s).map (begun ++ ·) := by
      unfold ids
      rw [knU_length, ← findSome_map]
      refine findSome_congr fun i hi => ?_
      have hi := List.mem_range.1 hi
      obtain ⟨e1, e2, l1, l2⟩ := sent_lst h hi
      have hg : kn (knU l l.length) (i : Int) = knAt l i := by simpa using knU_get hi
      unfold stepAt idsAt
      rw [hg, e1, e2, part_lst (show (knAt l i).1 < 256 by omega), part_lst (show (knAt l i).2.1 < 256 by omega), joined_lst hn.2 hs l2]
      obtain ⟨ih1, ih2⟩ := stepsR_ids h h0 h8 m (s ||| (knAt l i).2.1) (begun ++ [(i : Int)]) (or_lt hs l2)
      by_cases hc : sub (knAt l i).1 s = true ∧ sub (knAt l i).2.1 s = false
      · rw [if_pos hc, if_pos hc, ih1]
        cases hq : ids (knU l l.length) fact.toNat m (s ||| (knAt l i).2.1) with
        | none => simp
        | some q => simp [ih2 q hq]
      · rw [if_neg hc, if_neg hc]; rfl
    unfold stepAt at key
    unfold stepsR
    rw [key]
    cases hq : ids (knU l l.length) fact.toNat (m + 1) s with
    | none => simp
    | some q => simp
theorem ids_none {ks : List Kn} (h8 : ks.length ≤ 8) {fact : Nat} : ∀ (m s : Nat), ids ks fact m s = none → ∀ q', valS ks s q' → strS ks s q' → q'.length = m → ¬ (endS ks s q').testBit fact = true
  | 0, s, h, q', _, _, hl, hb => by
    obtain rfl : q' = [] := by simpa using hl
    unfold ids at h
    rw [if_pos (show s.testBit fact = true from hb)] at h
    cases h
  | m + 1, s, h, q', hv, hs, hl, hb => by
    cases q' with
    | nil => simp at hl
    | cons j r =>
      rw [valS] at hv
      rw [strS] at hs
      rw [endS_cons] at hb
      have hl : r.length = m := by simpa using hl
      unfold ids at h
      rw [List.findSome?_eq_none_iff] at h
      have := h j.toNat (List.mem_range.2 (by omega))
      unfold idsAt at this
      have ej : ((j.toNat : Nat) : Int) = j := by omega
      rw [ej, if_pos ⟨hv.2.1, hs.1⟩] at this
      exact ids_none h8 m _ (by simpa using this) r hv.2.2 hs.2 hl hb
theorem ids_some {ks : List Kn} (h8 : ks.length ≤ 8) {fact : Nat} : ∀ (m s : Nat) (q : List Int), ids ks fact m s = some q →
    valS ks s q ∧ q.length = m ∧ (endS ks s q).testBit fact = true ∧ ∀ q', valS ks s q' → strS ks s q' → q'.length = m → (endS ks s q').testBit fact = true → ∀ c, cod c q ≤ cod c q'
  | 0, s, q, h => by
    unfold ids at h
    split at h
    · rename_i hb
      simp at h; subst h
      refine ⟨trivial, rfl, hb, fun q' _ _ hl _ c => ?_⟩
      obtain rfl : q' = [] := by simpa using hl
      omega
    · cases h
  | m + 1, s, q, h => by
    unfold ids at h
    obtain ⟨k, hk, hf, hn⟩ := findSome_first h
    unfold idsAt at hf
    split at hf
    · rename_i hc
      cases ht : ids ks fact m (s ||| (kn ks k).2.1) with
      | none => rw [ht] at hf; cases hf
      | some t =>
        rw [ht] at hf
        simp at hf
        subst hf
        obtain ⟨i1, i2, i3, i4⟩ := ids_some h8 m _ t ht
        refine ⟨⟨by omega, hc.1, i1⟩, by simp [i2], by rw [endS_cons]; exact i3, fun q' hv hs hl hb c => ?_⟩
        cases q' with
        | nil => simp at hl
        | cons j r =>
          rw [valS] at hv
          rw [strS] at hs
          rw [endS_cons] at hb
          have hl : r.length = m := by simpa using hl
          rw [cod_cons, cod_cons]
          have hr := valS_dg h8 hv.2.2
          have htd := valS_dg h8 i1
          rcases Int.lt_trichotomy j k with e | e | e
          · exfalso
            have := hn j.toNat (by omega)
            unfold idsAt at this
            have ej : ((j.toNat : Nat) : Int) = j := by omega
            rw [ej, if_pos ⟨hv.2.1, hs.1⟩] at this
            have hnone := ids_none h8 m _ (by simpa using this) r hv.2.2 hs.2 hl
            exact hnone hb
          · subst e
            have hl' : r.length = m := by simpa using hl
            exact i4 r hv.2.2 hs.2 hl' hb _
          · exact Int.le_of_lt (cod_lt htd hr (by omega) (by omega))
    · cases hf
/-- the first number of steps with which there are any -/
def idsTop (ks : List Kn) (fact n s : Nat) : Option (List Int) := (List.range (n + 1)).findSome? (fun m => ids ks fact m s)
theorem idsTop_best {ks : List Kn} (h8 : ks.length ≤ 8) {fact n s : Nat} {p : List Int} (h : idsTop ks fact n s = some p) : Best ks fact s p := by
  obtain ⟨m, _, hm, hn⟩ := findSome_first h
  obtain ⟨h1, h2, h3, h4⟩ := ids_some h8 m s p hm
  refine ⟨h1, h3, fun q hv hb => ?_⟩
  obtain ⟨q', v', s', e', l'⟩ := strict_of q s hv
  rw [← e'] at hb
  have hge : m ≤ q'.length := by
    rcases Nat.lt_or_ge q'.length m with hlt | hge
    · exact absurd hb (ids_none h8 _ s (hn _ hlt) q' v' s' rfl)
    · exact hge
  have hpd := valS_dg h8 h1
  have hqd := valS_dg h8 hv
  rcases Nat.lt_or_ge p.length q.length with hlt | hle
  · exact Int.le_of_lt (cod_short hpd hqd hlt)
  · rcases l' with l' | l'
    · subst l'
      exact h4 q' v' s' (by omega) hb 0
    · omega
theorem idsTop_none {ks : List Kn} (h8 : ks.length ≤ 8) {fact n s : Nat} (hn : n ≤ 6) (hk : ∀ k ∈ ks, k.1 < 2 ^ n ∧ k.2.1 < 2 ^ n) (hs : s < 2 ^ n) (h : idsTop ks fact n s = none) (q : List Int) (hv : valS ks s q) : ¬ (endS ks s q).testBit fact = true := by
  obtain ⟨q', v', s', e', l'⟩ := strict_of q s hv
  rw [← e']
  have hl := strict_len hn hk q' s hs v' s'
  unfold idsTop at h
  rw [List.findSome?_eq_none_iff] at h
  exact ids_none h8 _ s (h q'.length (List.mem_range.2 (by omega))) q' v' s' rfl
end Go.V.R6
