/-
  Plain model of chapter 03's tables: carts and days, the search. Conditions: none.
-/
import Derived.Test.YtaphkenfcnocbaaDoorP2o
set_option linter.unusedVariables false
set_option linter.unusedSimpArgs false
set_option linter.deprecated false
namespace R3
open R2 (tz dif)

/-- what is known of carts and days: the streets or -1, and which streets are met -/
structure Tab where
  n : Nat
  at_ : List Int
  bc : List Nat
  od : List Nat
  deriving DecidableEq, Inhabited
def Tab.get (t : Tab) (c d : Nat) : Int := t.at_.getD (c * 5 + d) 0
def put (t : Tab) (c d : Nat) (s : Nat) : Tab := ⟨t.n, t.at_.set (c * 5 + d) s, t.bc.set c (t.bc.getD c 0 ||| 2 ^ s), t.od.set d (t.od.getD d 0 ||| 2 ^ s)⟩
def take (t : Tab) (c d : Nat) : Tab := ⟨t.n, t.at_.set (c * 5 + d) (-1), t.bc.set c (dif (t.bc.getD c 0) (2 ^ (t.get c d).toNat)), t.od.set d (dif (t.od.getD d 0) (2 ^ (t.get c d).toNat))⟩
def may (t : Tab) (c d : Nat) : Nat := dif (dif (2 ^ t.n - 1) (t.bc.getD c 0)) (t.od.getD d 0)
def begun (n : Nat) : Tab := ⟨n, List.replicate 25 (-1), List.replicate 5 0, List.replicate 5 0⟩
structure Ok (t : Tab) : Prop where
  n5 : t.n ≤ 5
  la : t.at_.length = 25
  lb : t.bc.length = 5
  lo : t.od.length = 5
  a : ∀ x ∈ t.at_, -1 ≤ x ∧ x < 5
  b : ∀ x ∈ t.bc, x < 32
  o : ∀ x ∈ t.od, x < 32
theorem mem_set {α : Type} {l : List α} {i : Nat} {x y : α} (h : y ∈ l.set i x) : y ∈ l ∨ y = x := by
  rcases List.mem_or_eq_of_mem_set h with h | h
  · exact .inl h
  · exact .inr h
theorem getD_lt {l : List Nat} (h : ∀ x ∈ l, x < 32) (i : Nat) : l.getD i 0 < 32 := by
  rw [List.getD_eq_getElem?_getD]
  cases hx : l[i]? with
  | none => simp
  | some x => exact h x (List.mem_of_getElem? hx)
theorem dif_le (a b : Nat) (h : a < 32) : dif a b < 32 := Nat.xor_lt_two_pow (n := 5) h (Nat.lt_of_le_of_lt Nat.and_le_left h)
theorem or_lt32 {a s : Nat} (h : a < 32) (hs : s < 5) : a ||| 2 ^ s < 32 := Nat.or_lt_two_pow (n := 5) h (Nat.pow_lt_pow_right (by decide) hs)
theorem begun_ok {n : Nat} (h : n ≤ 5) : Ok (begun n) := ⟨h, by simp [begun], by simp [begun], by simp [begun], fun x hx => by simp [begun] at hx; omega, fun x hx => by simp [begun] at hx; omega, fun x hx => by simp [begun] at hx; omega⟩
theorem put_ok {t : Tab} (h : Ok t) {c d s : Nat} (hs : s < 5) : Ok (put t c d s) where
  n5 := h.n5
  la := by simp [put, h.la]
  lb := by simp [put, h.lb]
  lo := by simp [put, h.lo]
  a x hx := by rcases mem_set hx with hx | rfl; exact h.a x hx; omega
  b x hx := by rcases mem_set hx with hx | rfl; exact h.b x hx; exact or_lt32 (getD_lt h.b c) hs
  o x hx := by rcases mem_set hx with hx | rfl; exact h.o x hx; exact or_lt32 (getD_lt h.o d) hs
theorem take_ok {t : Tab} (h : Ok t) {c d : Nat} : Ok (take t c d) where
  n5 := h.n5
  la := by simp [take, h.la]
  lb := by simp [take, h.lb]
  lo := by simp [take, h.lo]
  a x hx := by rcases mem_set hx with hx | rfl; exact h.a x hx; omega
  b x hx := by rcases mem_set hx with hx | rfl; exact h.b x hx; exact dif_le _ _ (getD_lt h.b c)
  o x hx := by rcases mem_set hx with hx | rfl; exact h.o x hx; exact dif_le _ _ (getD_lt h.o d)
theorem pow32 {n : Nat} (h : n ≤ 5) : 2 ^ n ≤ 32 := Nat.pow_le_pow_right (by decide) h
theorem may_lt {t : Tab} (h : Ok t) (c d : Nat) : may t c d < 32 := dif_le _ _ (dif_le _ _ (by have := pow32 h.n5; have := Nat.two_pow_pos t.n; omega))
theorem Ok.get {t : Tab} (h : Ok t) {c d : Nat} (hc : c < 5) (hd : d < 5) : t.at_[c * 5 + d]? = some (t.get c d) ∧ -1 ≤ t.get c d ∧ t.get c d < 5 := by
  have hl := h.la
  have h1 : t.at_[c * 5 + d]? = some (t.get c d) := by
    unfold Tab.get
    rw [List.getD_eq_getElem?_getD, List.getElem?_eq_getElem (by omega)]; rfl
  exact ⟨h1, h.a _ (List.mem_of_getElem? h1)⟩

theorem tz_lt5 : ∀ u < 32, u ≠ 0 → tz u < 5 := by decide +kernel
theorem and_pred_lt {u : Nat} (h : u < 32) : u &&& (u - 1) < 32 := Nat.lt_of_le_of_lt Nat.and_le_left h
/-- the search: what a set's streets lead to, smaller ones first -/
def loopM (f : Tab → Option (Bool × Tab)) (c d : Nat) : Nat → Tab → Nat → Option (Bool × Tab)
  | 0, _, _ => none
  | j + 1, t, u => if u = 0 then some (false, t) else match f (put t c d (tz u)) with
    | none => none
    | some (true, t') => some (true, t')
    | some (false, t') => if 0 ≤ t'.get c d then loopM f c d j (take t' c d) (u &&& (u - 1)) else none
/-- the table that is found, and whether that is enough: 'e' says whether the goal has enough at the first -/
def fillM (e : Bool) (to : Nat) : Nat → Tab → Nat → Nat → Option (Bool × Tab)
  | 0, _, _, _ => none
  | k + 1, t, c, d => if c = to then some (e, t) else if d = t.n then fillM e to k t (c + 1) 0 else if 0 ≤ t.get c d then fillM e to k t c (d + 1)
    else loopM (fun t' => fillM e to k t' c (d + 1)) c d 6 t (may t c d)

theorem loopM_ok {f : Tab → Option (Bool × Tab)} {c d n : Nat} (hf : ∀ t r, Ok t → t.n = n → f t = some r → Ok r.2 ∧ r.2.n = n) : ∀ j t u r, Ok t → t.n = n → u < 32 → loopM f c d j t u = some r → Ok r.2 ∧ r.2.n = n
  | 0, _, _, _, _, _, _, h => by simp [loopM] at h
  | j + 1, t, u, r, ok, hn, hu, h => by
    unfold loopM at h
    split at h
    · simp only [Option.some.injEq] at h; subst h; exact ⟨ok, hn⟩
    · rename_i h0
      have hp := put_ok (c := c) (d := d) ok (tz_lt5 u hu h0)
      cases hv : f (put t c d (tz u)) with
      | none => rw [hv] at h; simp at h
      | some q =>
        obtain ⟨q1, q2⟩ := hf _ q hp hn hv
        obtain ⟨b, t'⟩ := q
        rw [hv] at h
        cases b with
        | true => simp only [Option.some.injEq] at h; subst h; exact ⟨q1, q2⟩
        | false =>
          simp only at h
          split at h
          · exact loopM_ok hf j _ _ r (take_ok q1) q2 (and_pred_lt hu) h
          · simp at h
theorem fillM_ok {e : Bool} {to : Nat} : ∀ k t c d r, Ok t → fillM e to k t c d = some r → Ok r.2 ∧ r.2.n = t.n
  | 0, _, _, _, _, _, h => by simp [fillM] at h
  | k + 1, t, c, d, r, ok, h => by
    unfold fillM at h
    split at h
    · simp only [Option.some.injEq] at h; subst h; exact ⟨ok, rfl⟩
    · split at h
      · exact fillM_ok k t _ _ r ok h
      · split at h
        · exact fillM_ok k t _ _ r ok h
        · exact loopM_ok (n := t.n) (fun t1 r1 o1 n1 h1 => by have := fillM_ok k t1 _ _ r1 o1 h1; rw [n1] at this; exact this) 6 t _ r ok rfl (may_lt ok c d) h

/-! ### plans that are read -/
def openD (n i : Nat) : Nat → List Nat → Tab → Option Tab
  | _, [], t => some t
  | day, s :: l, t => if s < n ∧ (t.bc.getD i 0 / 2 ^ s) &&& 1 = 0 ∧ (t.od.getD day 0 / 2 ^ s) &&& 1 = 0 then openD n i (day + 1) l (put t i day s) else none
def openR (n wide : Nat) : Nat → List (List Nat) → Tab → Option Tab
  | _, [], t => some t
  | i, l :: L, t => if l.length = wide ∧ wide ≤ n then (match openD n i 0 l t with
    | some t' => openR n wide (i + 1) L t'
    | none => none) else none
def opened (n : Nat) (rows : List (List Nat)) (wide : Nat) : Option Tab := if 1 ≤ n ∧ n ≤ 5 ∧ rows.length ≤ n then openR n wide 0 rows (begun n) else none
theorem openD_ok {n i : Nat} (hn : n ≤ 5) : ∀ {l : List Nat} {day : Nat} {t r : Tab}, Ok t → openD n i day l t = some r → Ok r ∧ r.n = t.n
  | [], _, t, r, ok, h => by simp only [openD, Option.some.injEq] at h; subst h; exact ⟨ok, rfl⟩
  | s :: l, day, t, r, ok, h => by
    unfold openD at h
    split at h
    · rename_i hc
      have := openD_ok hn (put_ok (c := i) (d := day) (s := s) ok (by omega)) h
      exact ⟨this.1, this.2⟩
    · simp at h
theorem openD_cons {n i day s : Nat} {l : List Nat} {t r : Tab} (h : openD n i day (s :: l) t = some r) : (s < n ∧ (t.bc.getD i 0 / 2 ^ s) &&& 1 = 0 ∧ (t.od.getD day 0 / 2 ^ s) &&& 1 = 0) ∧ openD n i (day + 1) l (put t i day s) = some r := by
  unfold openD at h
  split at h
  · exact ⟨by assumption, h⟩
  · simp at h
theorem openR_cons {n wide i : Nat} {l : List Nat} {L : List (List Nat)} {t r : Tab} (h : openR n wide i (l :: L) t = some r) : l.length = wide ∧ wide ≤ n ∧ ∃ t', openD n i 0 l t = some t' ∧ openR n wide (i + 1) L t' = some r := by
  unfold openR at h
  split at h
  · rename_i hc
    split at h
    · rename_i t' ht
      exact ⟨hc.1, hc.2, t', ht, h⟩
    · simp at h
  · simp at h
def rowT (k : Nat) (l : List Nat) (t : Tab) : Nat → Tab
  | 0 => t
  | j + 1 => put (rowT k l t j) k j (l.getD j 0)
def allT (n : Nat) (L : List (List Nat)) : Nat → Tab
  | 0 => begun n
  | k + 1 => rowT k (L.getD k []) (allT n L k) (L.getD k []).length
end R3
