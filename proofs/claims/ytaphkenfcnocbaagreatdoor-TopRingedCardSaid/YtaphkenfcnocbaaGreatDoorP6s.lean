/-
  Plain models of the program of the chapter: sets as numbers, books inside. Conditions: none.
-/
import Derived.Test.YtaphkenfcnocbaaGreatDoorP6
import Derived.Test.YtaphkenfcnocbaaGreatDoorM6a
set_option linter.unusedVariables false
set_option linter.unusedSimpArgs false
set_option linter.deprecated false
namespace Go.V.R6

def lst (m : Nat) : List Int := ((List.range 8).filter (m.testBit ·)).map Int.ofNat
def tz8 (m : Nat) : Nat := ((List.range 8).find? (m.testBit ·)).getD 8
def oc8 (m : Nat) : Nat := ((List.range 8).filter (m.testBit ·)).length
theorem lst_step : ∀ f < 256, f ≠ 0 → lst f = (tz8 f : Int) :: lst (f &&& (f - 1)) ∧ f &&& (f - 1) < f := by decide +kernel
theorem lst_length (m : Nat) : (lst m).length ≤ 8 := by
  unfold lst; rw [List.length_map]; exact Nat.le_trans (List.length_filter_le _ _) (by simp)
theorem lst_mem {m : Nat} {x : Int} : x ∈ lst m ↔ ∃ i : Nat, i < 8 ∧ m.testBit i = true ∧ x = i := by
  unfold lst
  simp only [List.mem_map, List.mem_filter, List.mem_range]
  constructor
  · rintro ⟨i, ⟨h1, h2⟩, rfl⟩; exact ⟨i, h1, h2, rfl⟩
  · rintro ⟨i, h1, h2, rfl⟩; exact ⟨i, ⟨h1, h2⟩, rfl⟩

def maskOf (l : List Int) : Nat := l.foldl (fun o x => o ||| 2 ^ x.toNat) 0
def readErr (n : Int) : List Int → Int → Int
  | [], _ => 0
  | x :: r, last => if x < 0 ∨ n ≤ x then 2 else if x ≤ last then 7 else readErr n r x
theorem readErr_cons (n x last : Int) (r : List Int) : readErr n (x :: r) last = if x < 0 ∨ n ≤ x then 2 else if x ≤ last then 7 else readErr n r x := rfl
theorem listedAt_zero (x : Int) (r : List Int) (n : Int) : listedAt (x :: r) n 0 = if x < 0 ∨ n ≤ x then some 2 else none := by
  unfold listedAt inI
  by_cases h : x < 0 ∨ n ≤ x
  · have : (decide (0 ≤ x) && decide (x ≤ n - 1)) = false := by simp; omega
    simp [this, h]
  · have : (decide (0 ≤ x) && decide (x ≤ n - 1)) = true := by simp; omega
    simp [this, h]
theorem readErr_from (n : Int) : ∀ (rest pre : List Int) (last : Int), (pre = [] ∧ last = -1 ∨ ∃ p, pre = p ++ [last]) →
    ((List.range rest.length).findSome? (fun i => listedAt (pre ++ rest) n (pre.length + i))).getD 0 = readErr n rest last
  | [], pre, last, _ => by simp [readErr]
  | x :: r, pre, last, hl => by
    rw [List.length_cons, List.range_succ_eq_map, List.findSome?_cons, List.findSome?_map]
    have hx : (pre ++ x :: r).getD (pre.length + 0) 0 = x := by simp
    have ih := readErr_from n r (pre ++ [x]) x (.inr ⟨pre, rfl⟩)
    have e : (fun i => listedAt (pre ++ [x] ++ r) n ((pre ++ [x]).length + i)) = (fun i => listedAt (pre ++ x :: r) n (pre.length + i)) ∘ Nat.succ := by
      funext i; simp [Nat.add_assoc, Nat.add_comm 1]
    rw [e] at ih
    have h0 : listedAt (pre ++ x :: r) n (pre.length + 0) = if x < 0 ∨ n ≤ x then some 2 else if x ≤ last then some 7 else none := by
      rcases hl with ⟨rfl, rfl⟩ | ⟨p, rfl⟩
      · rw [List.nil_append, List.length_nil, Nat.zero_add, listedAt_zero]
        by_cases h : x < 0 ∨ n ≤ x
        · simp [h]
        · simp [h, show ¬ x ≤ -1 by omega]
      · unfold listedAt inI
        rw [hx]
        have h1 : (p ++ [last] ++ x :: r).getD ((p ++ [last]).length + 0 - 1) 0 = last := by simp
        rw [h1]
        have h2 : 0 < (p ++ [last]).length + 0 := by simp
        by_cases h : x < 0 ∨ n ≤ x
        · have : (decide (0 ≤ x) && decide (x ≤ n - 1)) = false := by simp; omega
          simp [this, h]
        · have : (decide (0 ≤ x) && decide (x ≤ n - 1)) = true := by simp; omega
          simp [this, h]
    rw [h0]
    unfold readErr
    by_cases h : x < 0 ∨ n ≤ x
    · simp [h]
    · by_cases h' : x ≤ last
      · simp [h, h']
      · simp only [h, h', if_false]; exact ih
theorem listed_eq (l : List Int) (n : Int) : listed l n = readErr n l (-1) := by
  have := readErr_from n l [] (-1) (.inl ⟨rfl, rfl⟩)
  simpa [listed] using this
/-- what a list reads as *-/
def readM (n : Int) (l : List Int) : Nat × Int := (if listed l n = 0 then maskOf l else 0, listed l n)
theorem maskFrom_lt {n : Int} : ∀ {l : List Int} {o : Nat} {last : Int}, o < 2 ^ n.toNat → readErr n l last = 0 → l.foldl (fun o x => o ||| 2 ^ x.toNat) o < 2 ^ n.toNat
  | [], o, _, h, _ => h
  | x :: r, o, last, h, he => by
    unfold readErr at he
    split at he
    · cases he
    · split at he
      · cases he
      · rw [List.foldl_cons]
        refine maskFrom_lt (Nat.or_lt_two_pow h ?_) he
        exact Nat.pow_lt_pow_right (by omega) (by omega)
theorem maskOf_lt {n : Int} {l : List Int} (h : listed l n = 0) : maskOf l < 2 ^ n.toNat := by
  rw [listed_eq] at h
  exact maskFrom_lt (Nat.two_pow_pos _) h
theorem pow_le64 {n : Int} (h : n ≤ 6) : 2 ^ n.toNat ≤ 64 := by
  have : n.toNat ≤ 6 := by omega
  exact Nat.le_trans (Nat.pow_le_pow_right (by omega) this) (by decide)
theorem maskOf_lt64 {n : Int} {l : List Int} (hn : n ≤ 6) (h : listed l n = 0) : maskOf l < 64 := Nat.lt_of_lt_of_le (maskOf_lt h) (pow_le64 hn)
/-- sentences inside: their sets, and their numbers -/
abbrev Kn := Nat × Nat × Nat
def knAt (l : Bk) (i : Nat) : Kn := (maskOf (sAt l i).1, maskOf (sAt l i).2, i)
def knU (l : Bk) (k : Nat) : List Kn := (List.range k).map (knAt l)
theorem knU_length (l : Bk) (k : Nat) : (knU l k).length = k := by simp [knU]
theorem knU_succ (l : Bk) (k : Nat) : knU l (k + 1) = knU l k ++ [knAt l k] := by simp [knU, List.range_succ]
/-- a book inside, and the error -/
def openedM (n : Int) (l : Bk) : Nat × List Kn := if check n l = 0 then (2 ^ n.toNat - 1, knU l l.length) else (0, [])
theorem openedM_err {n : Int} {l : Bk} (h : check n l ≠ 0) : openedM n l = (0, []) := by simp [openedM, h]
theorem openedM_ok {n : Int} {l : Bk} (h : check n l = 0) : openedM n l = (2 ^ n.toNat - 1, knU l l.length) := by simp [openedM, h]
theorem readM_ok {n : Int} {l : List Int} (h : listed l n = 0) : readM n l = (maskOf l, 0) := by simp [readM, h]
theorem readM_err {n : Int} {l : List Int} (h : listed l n ≠ 0) : readM n l = (0, listed l n) := by simp [readM, h]
theorem check_none {n : Int} {l : Bk} (h : inI n 1 6 = true) (h8 : l.length ≤ 8) (hI : ∀ i, i < l.length → checkAt n l i = none) : check n l = 0 := by
  simp [check, h, show ¬ 8 < l.length by omega, findSome_none hI]
theorem check_hit {n : Int} {l : Bk} {k : Nat} {e : Int} (h : inI n 1 6 = true) (h8 : l.length ≤ 8) (hI : ∀ i, i < k → checkAt n l i = none) (hk : k < l.length) (he : checkAt n l k = some e) : check n l = e := by
  simp [check, h, show ¬ 8 < l.length by omega, findSome_hit hI hk he]
def KnOK (ks : List Kn) : Prop := ks.length ≤ 8 ∧ ∀ k ∈ ks, k.1 < 256 ∧ k.2.1 < 256
theorem checkAt_ok {n : Int} {l : Bk} {i : Nat} (h : checkAt n l i = none) : listed (sAt l i).1 n = 0 ∧ listed (sAt l i).2 n = 0 := by
  unfold checkAt at h
  split at h
  · rename_i h0
    unfold sentErr at h0
    split at h0
    · rename_i h1; exact ⟨h1, h0⟩
    · rename_i h1; exact absurd h0 h1
  · cases h
theorem check_at {n : Int} {l : Bk} (h : check n l = 0) {i : Nat} (hi : i < l.length) : listed (sAt l i).1 n = 0 ∧ listed (sAt l i).2 n = 0 := by
  have hr := check_range h
  have h8 := check_many h
  unfold check at h
  rw [if_neg (by simp [inI, hr]), if_neg (by omega)] at h
  cases hf : (List.range l.length).findSome? (checkAt n l) with
  | none => exact checkAt_ok (List.findSome?_eq_none_iff.1 hf i (List.mem_range.2 hi))
  | some e =>
    rw [hf] at h
    obtain ⟨j, hj, he⟩ := List.exists_of_findSome?_eq_some hf
    unfold checkAt at he
    split at he
    · cases he
    · rename_i h0
      simp only [Option.some.injEq] at he
      simp only [Option.getD_some] at h
      exact absurd (he.trans h) h0
theorem knU_ok {n : Int} {l : Bk} (h : check n l = 0) : ∀ k ∈ knU l l.length, k.1 < 2 ^ n.toNat ∧ k.2.1 < 2 ^ n.toNat := by
  intro k hk
  obtain ⟨i, hi, rfl⟩ := List.mem_map.1 hk
  have := check_at h (List.mem_range.1 hi)
  exact ⟨maskOf_lt this.1, maskOf_lt this.2⟩
theorem knU_OK {n : Int} {l : Bk} (h : check n l = 0) : KnOK (knU l l.length) := by
  have hr := check_range h
  have h6 := pow_le64 hr.2
  refine ⟨by rw [knU_length]; exact check_many h, fun k hk => ?_⟩
  have := knU_ok h k hk
  omega

/-- rules of sentences but one -/
def rl (ks : List Kn) (but : Int) : Rs := (ks.filter fun k => (k.2.2 : Int) != but).map fun k => (k.1, k.2.1)
def stepK (but : Int) (f : Nat) (k : Kn) : Nat := if ((k.2.2 : Int) != but && sub k.1 f) = true then f ||| k.2.1 else f
def roundK (ks : List Kn) (but : Int) (f : Nat) : Nat := ks.foldl (stepK but) f
theorem roundK_eq (but : Int) : ∀ (ks : List Kn) (f : Nat), roundK ks but f = roundM (rl ks but) f
  | [], f => rfl
  | k :: ks, f => by
    unfold roundK rl roundM
    rw [List.foldl_cons, List.filter_cons]
    have ih := roundK_eq but ks
    unfold roundK rl roundM at ih
    rw [ih]
    unfold stepK
    cases h : ((k.2.2 : Int) != but)
    · simp
    · simp
theorem roundK_take (ks : List Kn) (but : Int) (f : Nat) {i : Nat} {k : Kn} (h : ks[i]? = some k) : roundK (ks.take (i + 1)) but f = stepK but (roundK (ks.take i) but f) k := by
  unfold roundK; rw [take_succ_of h, List.foldl_append]; rfl
theorem rl_ok {ks : List Kn} (h : KnOK ks) (but : Int) : Ok (rl ks but) 8 := by
  intro r hr
  obtain ⟨k, hk, rfl⟩ := List.mem_map.1 hr
  exact h.2 k (List.mem_filter.1 hk).1
theorem KnOK.take {ks : List Kn} (h : KnOK ks) (i : Nat) : KnOK (ks.take i) := ⟨Nat.le_trans (by simp; omega) h.1, fun k hk => h.2 k (List.mem_of_mem_take hk)⟩
theorem roundK_lt {ks : List Kn} (h : KnOK ks) (but : Int) {f : Nat} (hf : f < 256) (i : Nat) : roundK (ks.take i) but f < 256 := by
  rw [roundK_eq]; exact round_lt (n := 8) (rl_ok (h.take i) but) hf
def askedM (n : Int) (l : Bk) (set : List Int) : Nat := if asked n l set = 0 then maskOf set else 0
theorem asked_ok {n : Int} {l : Bk} {set : List Int} (h : asked n l set = 0) : check n l = 0 ∧ listed set n = 0 := by
  have hc := asked_check h
  unfold asked at h
  rw [if_pos hc] at h
  exact ⟨hc, h⟩
theorem askedM_lt (n : Int) (l : Bk) (set : List Int) : askedM n l set < 64 := by
  unfold askedM
  split
  · rename_i h
    obtain ⟨h1, h2⟩ := asked_ok h
    exact maskOf_lt64 (check_range h1).2 h2
  · omega
/-- what follows, in a universe of eight facts -/
abbrev fol (ks : List Kn) (but : Int) (f : Nat) : Nat := clo (rl ks but) 8 f
theorem fol_lt (ks : List Kn) (but : Int) (f : Nat) : fol ks but f < 256 := clo_lt _ _ _
theorem fol_fix {ks : List Kn} (h : KnOK ks) {but : Int} {f g : Nat} (hg : g < 256) (h1 : sub f g = true) (h2 : sub g (fol ks but f) = true) (hr : roundK ks but g = g) : g = fol ks but f := by
  rw [roundK_eq] at hr
  exact sub_antisymm h2 (clo_min hg h1 (round_fix hr))
theorem fol_round {ks : List Kn} (h : KnOK ks) {but : Int} {f g : Nat} (h1 : sub f g = true) (h2 : sub g (fol ks but f) = true) : sub f (roundK ks but g) = true ∧ sub (roundK ks but g) (fol ks but f) = true := by
  rw [roundK_eq]
  exact ⟨sub_trans h1 (round_sub _ _), round_le (clo_closed (rl_ok h but)) h2⟩
theorem round_grow {ks : List Kn} {but : Int} {g : Nat} (h : roundK ks but g ≠ g) : g < roundK ks but g := by
  have := round_sub (rl ks but) g
  rw [← roundK_eq] at this
  exact sub_lt this (fun e => h e.symm)
end Go.V.R6
