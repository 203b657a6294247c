/-
  Plain laws of open sets and the base. Conditions: none.
-/
import Derived.Test.YthhfgcejamfinaaDoorP6q
set_option linter.unusedVariables false
set_option linter.unusedSimpArgs false
set_option linter.deprecated false
set_option linter.unusedSectionVars false
namespace Go.V.R6

section
variable {L : Rs} {n : Nat}
theorem openU_succ (k : Nat) : openU L n (k + 1) = openU L n k ++ if isOp L n (openU L n k) k = true then [k] else [] := rfl
theorem openU_mem {f : Nat} : ∀ {k : Nat}, f ∈ openU L n k ↔ f < k ∧ isOp L n (openU L n f) f = true
  | 0 => by simp [openU]
  | k + 1 => by
    rw [openU_succ, List.mem_append, openU_mem (k := k)]
    constructor
    · rintro (h | h)
      · exact ⟨by omega, h.2⟩
      · split at h
        · rename_i hk; rw [List.mem_singleton] at h; subst h; exact ⟨by omega, hk⟩
        · simp at h
    · rintro ⟨h1, h2⟩
      by_cases e : f = k
      · subst e; right; rw [if_pos h2]; simp
      · left; exact ⟨by omega, h2⟩
theorem openU_L {f k : Nat} (hk : k ≤ 2 ^ n) : f ∈ openU L n k ↔ f ∈ openL L n ∧ f < k := by
  unfold openL; rw [openU_mem, openU_mem]
  constructor
  · rintro ⟨h1, h2⟩; exact ⟨⟨by omega, h2⟩, h1⟩
  · rintro ⟨h1, h2⟩; exact ⟨h2, h1.2⟩
theorem openL_lt {f : Nat} (h : f ∈ openL L n) : f < 2 ^ n := (openU_mem.1 h).1
theorem mem_openL {f : Nat} : f ∈ openL L n ↔ f < 2 ^ n ∧ closedM L f = false ∧ ∀ o ∈ openL L n, o ≠ f → sub o f = true → sub (clo L n o) f = true := by
  unfold openL
  rw [openU_mem]
  refine and_congr_right fun hf => ?_
  unfold isOp
  rw [Bool.and_eq_true, Bool.not_eq_true', List.all_eq_true]
  refine and_congr_right fun _ => ?_
  constructor
  · intro h o ho hne hs
    have := h o ((openU_L (by omega)).2 ⟨ho, sub_lt hs hne⟩)
    unfold opAt at this
    simpa [hs] using this
  · intro h o ho
    obtain ⟨h1, h2⟩ := (openU_L (by omega)).1 ho
    unfold opAt
    cases hs : sub o f with
    | false => rfl
    | true => rw [h o h1 (by omega) hs]; rfl
theorem openL_not {f : Nat} (h : f ∈ openL L n) : closedM L f = false := (mem_openL.1 h).2.1
theorem openL_sub {f o : Nat} (h : f ∈ openL L n) (ho : o ∈ openL L n) (hne : o ≠ f) (hs : sub o f = true) : sub (clo L n o) f = true := (mem_openL.1 h).2.2 o ho hne hs
theorem openU_nodup : ∀ k, (openU L n k).Pairwise (· < ·)
  | 0 => by simp [openU]
  | k + 1 => by
    unfold openU
    refine List.pairwise_append.2 ⟨openU_nodup k, by split <;> simp, fun a ha b hb => ?_⟩
    have := openU_lt L n k a ha
    split at hb <;> simp at hb; omega
theorem openL_nodup : (openL L n).Nodup := (openU_nodup (2 ^ n)).imp (fun h => by omega)
theorem openL_length : (openL L n).length ≤ 2 ^ n := openU_length L n _

/-- a set is closed just if what follows from each open set in it lies in it -/
theorem closed_openL (hok : Ok L n) {s : Nat} (hs : s < 2 ^ n) : closedM L s = true ↔ ∀ o ∈ openL L n, sub o s = true → sub (clo L n o) s = true := by
  constructor
  · intro h o _ ho
    exact clo_min hs ho h
  · intro h
    cases hc : closedM L s with
    | true => rfl
    | false =>
      have hm : s ∈ openL L n := mem_openL.2 ⟨hs, hc, fun o ho _ hso => h o ho hso⟩
      have := sub_antisymm (h s hm (sub_refl s)) (sub_clo hs)
      rw [(clo_eq_iff hok hs).1 this] at hc
      cases hc

/-- no sentence is broken by two open sets -/
theorem openL_own (hok : Ok L n) {p q : Nat} (hp : p ∈ openL L n) (hq : q ∈ openL L n) (hne : p ≠ q) {r : Nat × Nat} (hr : r ∈ L) (h1 : sub r.1 p = true) (h2 : sub r.2 p = false) (h3 : sub r.1 q = true) (h4 : sub r.2 q = false) : False := by
  have hpl := openL_lt hp
  have hql := openL_lt hq
  have hin : sub r.1 (p &&& q) = true := sub_and h1 h3
  have hnc : closedM L (p &&& q) = false := by
    cases hc : closedM L (p &&& q) with
    | false => rfl
    | true => have := sub_trans (closedM_iff.1 hc r hr hin) (and_sub_left p q); rw [h2] at this; cases this
  have hlt : p &&& q < 2 ^ n := lt_of_sub (and_sub_left p q) hpl
  -- what is broken lies in one that is smaller
  have hex : ∃ o ∈ openL L n, sub o (p &&& q) = true ∧ sub (clo L n o) (p &&& q) = false := by
    rcases Classical.em (∃ o ∈ openL L n, sub o (p &&& q) = true ∧ sub (clo L n o) (p &&& q) = false) with h | h
    · exact h
    · have : closedM L (p &&& q) = true := (closed_openL hok hlt).2 fun o ho hs => by
        cases hx : sub (clo L n o) (p &&& q) with
        | true => rfl
        | false => exact absurd ⟨o, ho, hs, hx⟩ h
      rw [hnc] at this; cases this
  obtain ⟨o, ho, hs, hx⟩ := hex
  have hop := sub_trans hs (and_sub_left p q)
  have hoq := sub_trans hs (and_sub_right p q)
  have c1 : o ≠ p → sub (clo L n o) p = true := fun h => openL_sub hp ho h hop
  have c2 : o ≠ q → sub (clo L n o) q = true := fun h => openL_sub hq ho h hoq
  have sub_r : ∀ {x}, x < 2 ^ n → sub r.1 x = true → sub r.2 (clo L n x) = true := fun hx hs => closedM_iff.1 (clo_closed hok) r hr (sub_trans hs (sub_clo hx))
  by_cases e1 : o = p
  · subst e1
    have := sub_trans (sub_r hpl h1) (c2 hne)
    rw [h4] at this; cases this
  · by_cases e2 : o = q
    · subst e2
      have := sub_trans (sub_r hql h3) (c1 e1)
      rw [h2] at this; cases this
    · rw [sub_and (c1 e1) (c2 e2)] at hx; cases hx
theorem openL_has {p : Nat} (hp : p ∈ openL L n) : ∃ r ∈ L, sub r.1 p = true ∧ sub r.2 p = false := by
  have := openL_not hp
  rcases Classical.em (∃ r ∈ L, sub r.1 p = true ∧ sub r.2 p = false) with h | h
  · exact h
  · have : closedM L p = true := closedM_iff.2 fun r hr hs => by
      cases hx : sub r.2 p with
      | true => rfl
      | false => exact absurd ⟨r, hr, hs, hx⟩ h
    simp_all

/-! ### the base's list -/
theorem knL_knU (h8 : n ≤ 8) (hok : Ok L n) : knL L = knU (bk L) (bk L).length := (knU_bk hok h8).symm
theorem opUptoN_openL (h1 : 1 ≤ n) (h6 : n ≤ 6) (hl : L.length ≤ 8) (hok : Ok L n) {f : Nat} : ∀ s, f ∈ opUptoN (n : Int) (knL L) s ↔ f ∈ openL L n ∧ oc8 f < s := by
  have h64 := pow64 h6
  have hup : ∀ s, ∀ o ∈ opUptoN (n : Int) (knL L) s, o < 2 ^ n := fun s o ho => by
    rw [knL_knU (by omega) hok] at ho
    simpa using (opUpto_map (check_bk h1 h6 hl hok) s).2 o ho
  suffices H : ∀ s f, f < 64 → (f ∈ opUptoN (n : Int) (knL L) s ↔ f ∈ openL L n ∧ oc8 f < s) by
    intro s
    rcases Nat.lt_or_ge f 64 with h | h
    · exact H s f h
    · exact ⟨fun hm => by have := hup s f hm; omega, fun hm => by have := openL_lt hm.1; omega⟩
  intro s
  induction s with
  | zero => intro f hf; simp [opUptoN]
  | succ s ih =>
    intro f hf
    rw [opUptoN_mem (by omega) hf, ih f hf, Int.toNat_natCast]
    have ef : ∀ o, o < 2 ^ n → fol (knL L) (-1) o = clo L n o := fun o ho => by
      show clo (rl (knL L) (-1)) 8 o = _
      rw [rl_knL, clo_eq8 (by omega) hok ho]
    have key : f < 2 ^ n → oc8 f = s → (opC (knL L) s (opUptoN (n : Int) (knL L) s) f = true ↔ f ∈ openL L n) := by
      intro h2 he
      unfold opC
      rw [rl_knL, mem_openL]
      simp only [he, beq_self_eq_true, Bool.true_and, Bool.and_eq_true, Bool.not_eq_true', h2, true_and, List.all_eq_true]
      refine and_congr_right fun _ => ?_
      constructor
      · intro h o ho hne hs
        have hol := openL_lt ho
        have hlt := oc8_sub o (by omega) f hf hs hne
        have := h o ((ih o (by omega)).2 ⟨ho, by omega⟩)
        rw [ef o hol] at this
        simpa [hs] using this
      · intro h o ho
        have hom : o < 64 := by have := hup s o ho; omega
        have hm := (ih o hom).1 ho
        rw [ef o (openL_lt hm.1)]
        cases hs : sub o f with
        | false => rfl
        | true => rw [h o hm.1 (fun e => by subst e; omega) hs]; rfl
    constructor
    · rintro (h | ⟨h1, h2⟩)
      · exact ⟨h.1, by omega⟩
      · have he : oc8 f = s := by
          unfold opC at h2
          simp only [Bool.and_eq_true, beq_iff_eq] at h2
          exact h2.1.1
        exact ⟨(key h1 he).1 h2, by omega⟩
    · rintro ⟨h1, h2⟩
      by_cases e : oc8 f = s
      · exact .inr ⟨openL_lt h1, (key (openL_lt h1) e).2 h1⟩
      · exact .inl ⟨h1, by omega⟩

theorem opensN_openL (h1 : 1 ≤ n) (h6 : n ≤ 6) (hl : L.length ≤ 8) (hok : Ok L n) {f : Nat} : f ∈ opensN (n : Int) (knL L) ↔ f ∈ openL L n := by
  have h64 := pow64 h6
  unfold opensN
  rw [Int.toNat_natCast, opUptoN_openL h1 h6 hl hok]
  refine ⟨fun h => h.1, fun h => ⟨h, ?_⟩⟩
  have hlt := openL_lt h
  have hp := Nat.two_pow_pos n
  have hf := oc8_full n (by omega)
  by_cases e : f = 2 ^ n - 1
  · rw [e, hf]; omega
  · have := oc8_sub f (by omega) (2 ^ n - 1) (by omega) (sub_full hlt) e
    omega
/-- open sets in the order of their lists -/
def oS (L : Rs) (n : Nat) : List Nat := (srt (n : Int)).filter fun f => decide (f ∈ openL L n)
/-- the base, as numbers -/
def baL (L : Rs) (n : Nat) : Rs := (oS L n).map fun f => (f, dif (clo L n f) f)
theorem mem_oS {f : Nat} : f ∈ oS L n ↔ f ∈ openL L n := by
  unfold oS
  rw [List.mem_filter, srt_mem, Int.toNat_natCast, decide_eq_true_eq]
  exact ⟨fun h => h.2, fun h => ⟨openL_lt h, h⟩⟩
theorem oS_nodup : (oS L n).Nodup := List.Pairwise.filter _ (srt_nodup n)
theorem oS_perm : (oS L n).Perm (openL L n) := perm_of_nodup oS_nodup openL_nodup fun _ => mem_oS
theorem baL_length : (baL L n).length = (openL L n).length := by unfold baL; rw [List.length_map, oS_perm.length_eq]
theorem mem_baL {r : Nat × Nat} : r ∈ baL L n ↔ r.1 ∈ openL L n ∧ r.2 = dif (clo L n r.1) r.1 := by
  unfold baL
  rw [List.mem_map]
  constructor
  · rintro ⟨f, hf, rfl⟩; exact ⟨mem_oS.1 hf, rfl⟩
  · rintro ⟨h1, h2⟩; exact ⟨r.1, mem_oS.2 h1, by rw [← h2]⟩
theorem dif_lt {a b k : Nat} (h : a < 2 ^ k) : dif a b < 2 ^ k := lt_of_bits fun i hi => by
  rw [dif_testBit, Bool.and_eq_true] at hi
  exact testBit_lt h hi.1
theorem dif_sub (a b : Nat) : sub (dif a b) a = true := sub_iff.2 fun i hi => by rw [dif_testBit, Bool.and_eq_true] at hi; exact hi.1
theorem sub_of_dif {a b c : Nat} (h1 : sub (dif a b) c = true) (h2 : sub b c = true) : sub a c = true := sub_iff.2 fun i hi => by
  cases hb : b.testBit i with
  | true => exact sub_iff.1 h2 i hb
  | false => exact sub_iff.1 h1 i (by rw [dif_testBit, hi, hb]; rfl)
theorem baL_ok : Ok (baL L n) n := fun r hr => by
  obtain ⟨h1, h2⟩ := mem_baL.1 hr
  exact ⟨openL_lt h1, by rw [h2]; exact dif_lt (clo_lt _ _ _)⟩
theorem base_bk (h1 : 1 ≤ n) (h6 : n ≤ 6) (hl : L.length ≤ 8) (hok : Ok L n) : baseM (n : Int) (bk L) = bk (baL L n) := by
  have h64 := pow64 h6
  have hc := check_bk h1 h6 hl hok
  rw [base_eq, if_pos hc, baseR_eq hc, ← knL_knU (by omega) hok]
  have e : ((srt (n : Int)).filter fun f => decide (f ∈ opensN (n : Int) (knL L))) = oS L n := by
    unfold oS
    apply List.filter_congr
    intro f _
    rw [decide_eq_decide]
    exact opensN_openL h1 h6 hl hok
  rw [e]
  unfold bk baL
  rw [List.map_map]
  refine List.map_congr_left fun f hf => ?_
  have hlt := openL_lt (mem_oS.1 hf)
  have ef : fol (knL L) (-1) f = clo L n f := by
    show clo (rl (knL L) (-1)) 8 f = _
    rw [rl_knL, clo_eq8 (by omega) hok hlt]
  simp only [Function.comp, ef]
theorem closed_baL (hok : Ok L n) {s : Nat} (hs : s < 2 ^ n) : closedM (baL L n) s = closedM L s := by
  rw [Bool.eq_iff_iff, closed_openL hok hs, closedM_iff]
  constructor
  · intro h o ho hos
    exact sub_of_dif (h (o, dif (clo L n o) o) (mem_baL.2 ⟨ho, rfl⟩) hos) hos
  · intro h r hr hrs
    obtain ⟨h1, h2⟩ := mem_baL.1 hr
    rw [h2]
    exact sub_trans (dif_sub _ _) (h r.1 h1 hrs)
/-- sentences of its own: no more open sets than sentences -/
def broken (L : Rs) (s i : Nat) : Bool := sub (L.getD i (0, 0)).1 s && !sub (L.getD i (0, 0)).2 s
theorem broken_at {s i : Nat} {r : Nat × Nat} (h : L[i]? = some r) : broken L s i = (sub r.1 s && !sub r.2 s) := by simp [broken, h]
theorem broken_one (hok : Ok L n) {p q i : Nat} (hp : p ∈ openL L n) (hq : q ∈ openL L n) (hi : i < L.length) (h1 : broken L p i = true) (h2 : broken L q i = true) : p = q := by
  have hr := List.getElem?_eq_getElem hi
  rw [broken_at hr, Bool.and_eq_true, Bool.not_eq_true'] at h1 h2
  exact Classical.not_not.1 fun hne => openL_own hok hp hq hne (List.getElem_mem hi) h1.1 h1.2 h2.1 h2.2
theorem broken_has {p : Nat} (hp : p ∈ openL L n) : ∃ i, i < L.length ∧ broken L p i = true := by
  obtain ⟨r, hr, h1, h2⟩ := openL_has hp
  obtain ⟨i, hi, rfl⟩ := List.getElem_of_mem hr
  exact ⟨i, hi, by rw [broken_at (List.getElem?_eq_getElem hi), h1, h2]; rfl⟩
/-- the last sentence below k that a set breaks -/
def ownU (L : Rs) (s : Nat) : Nat → Int
  | 0 => -1
  | k + 1 => if broken L s k = true then (k : Int) else ownU L s k
theorem ownU_spec (L : Rs) (s : Nat) : ∀ k, (ownU L s k = -1 ∧ ∀ i, i < k → broken L s i = false) ∨ ∃ i, i < k ∧ ownU L s k = (i : Int) ∧ broken L s i = true
  | 0 => .inl ⟨rfl, by omega⟩
  | k + 1 => by
    unfold ownU
    split
    · rename_i h; exact .inr ⟨k, by omega, rfl, h⟩
    · rename_i h
      rcases ownU_spec L s k with ⟨h1, h2⟩ | ⟨i, hi, h1, h2⟩
      · refine .inl ⟨h1, fun i hi => ?_⟩
        by_cases e : i = k
        · subst e; simpa using h
        · exact h2 i (by omega)
      · exact .inr ⟨i, by omega, h1, h2⟩
def ownL (L : Rs) (s : Nat) : Int := ownU L s L.length
theorem ownL_has {p : Nat} (hp : p ∈ openL L n) : ∃ i, i < L.length ∧ ownL L p = (i : Int) ∧ broken L p i = true := by
  rcases ownU_spec L p L.length with ⟨_, h⟩ | h
  · obtain ⟨i, hi, hb⟩ := broken_has hp
    rw [h i hi] at hb; cases hb
  · exact h
theorem ownL_inj (hok : Ok L n) {p q : Nat} (hp : p ∈ openL L n) (hq : q ∈ openL L n) (h : ownL L p = ownL L q) : p = q := by
  obtain ⟨i, hi, h1, h2⟩ := ownL_has hp
  obtain ⟨j, hj, h3, h4⟩ := ownL_has hq
  obtain rfl : i = j := by rw [h1, h3] at h; omega
  exact broken_one hok hp hq hi h2 h4
theorem openL_le (hok : Ok L n) : (openL L n).length ≤ L.length := by
  have hnd : ((openL L n).map fun p => (ownL L p).toNat).Nodup := by
    rw [List.nodup_iff_pairwise_ne, List.pairwise_map]
    refine (List.nodup_iff_pairwise_ne.1 openL_nodup).imp_of_mem fun {a b} ha hb hab e => hab (ownL_inj hok ha hb ?_)
    obtain ⟨i, _, h1, _⟩ := ownL_has ha
    obtain ⟨j, _, h2, _⟩ := ownL_has hb
    rw [h1, h2] at e ⊢; simp at e; rw [e]
  have := nodup_lt L.length _ hnd fun x hx => by
    obtain ⟨p, hp, rfl⟩ := List.mem_map.1 hx
    obtain ⟨i, hi, h1, _⟩ := ownL_has hp
    rw [h1]; simpa using hi
  simpa using this

theorem oS_lt (h6 : n ≤ 6) : (oS L n).Pairwise (fun x y => x ≠ y ∧ ¬ cmpF y x < 0) := by
  have h1 : (oS L n).Pairwise (fun x y => ¬ cmpF y x < 0) := List.Pairwise.filter _ (isort_sorted (cmpF_tot fun x hx => by have := List.mem_range.1 hx; have := pow64 h6; rw [Int.toNat_natCast] at *; omega))
  exact (List.nodup_iff_pairwise_ne.1 oS_nodup).and h1
theorem baL_get {k : Nat} {r : Nat × Nat} (h : (baL L n)[k]? = some r) : (oS L n)[k]? = some r.1 ∧ r.2 = dif (clo L n r.1) r.1 ∧ r.1 ∈ openL L n := by
  unfold baL at h
  rw [List.getElem?_map, Option.map_eq_some_iff] at h
  obtain ⟨f, hf, rfl⟩ := h
  exact ⟨hf, rfl, mem_oS.1 (List.mem_of_getElem? hf)⟩
theorem baL_sorted (h6 : n ≤ 6) {k : Nat} {r q : Nat × Nat} (h : (baL L n)[k]? = some r) (hq : (baL L n)[k + 1]? = some q) : cmpL (lst r.1) (lst q.1) < 0 := by
  have h64 := pow64 h6
  obtain ⟨h1, _, m1⟩ := baL_get h
  obtain ⟨h2, _, m2⟩ := baL_get hq
  have l1 := openL_lt m1
  have l2 := openL_lt m2
  obtain ⟨g1, e1⟩ := List.getElem?_eq_some_iff.1 h1
  obtain ⟨g2, e2⟩ := List.getElem?_eq_some_iff.1 h2
  have := List.pairwise_iff_getElem.1 (oS_lt (L := L) h6) k (k + 1) g1 g2 (by omega)
  rw [e1, e2] at this
  have ha := cmpL_anti (lst r.1) (lst q.1)
  have hz : cmpL (lst r.1) (lst q.1) ≠ 0 := fun e => this.1 (lst_inj (by omega) (by omega) (cmpL_eq.1 e))
  have := this.2
  unfold cmpF at this
  omega

section
variable (h1 : 1 ≤ n) (h6 : n ≤ 6) (hl : L.length ≤ 8) (hok : Ok L n)
include h1 h6 hl hok
theorem baL_le : (baL L n).length ≤ 8 := by rw [baL_length]; exact Nat.le_trans (openL_le hok) hl
theorem rl_bk : rl (knU (bk L) (bk L).length) (-1) = L := by rw [← knL_knU (by omega) hok, rl_knL]
theorem sameErr_base : sameErr (n : Int) (bk L) (n : Int) (bk (baL L n)) = 0 := by
  unfold sameErr
  rw [if_pos (check_bk h1 h6 hl hok), if_pos (check_bk h1 h6 (baL_le h1 h6 hl hok) baL_ok), if_pos rfl]
theorem same_base : sameM (n : Int) (bk L) (n : Int) (bk (baL L n)) = true := by
  have c1 := check_bk h1 h6 hl hok
  have c2 := check_bk h1 h6 (baL_le h1 h6 hl hok) (baL_ok (L := L))
  rw [same_eq, sameErr_base h1 h6 hl hok, show decide ((0 : Int) = 0) = true from rfl, Bool.true_and, equal_iff c1 c2]
  intro f hf
  rw [Int.toNat_natCast] at hf
  rw [rl_bk h1 h6 hl hok, rl_bk h1 h6 (baL_le h1 h6 hl hok) baL_ok, closed_baL hok hf]
theorem need_base : needM (n : Int) (bk (baL L n)) = [] := by
  have c2 := check_bk h1 h6 (baL_le h1 h6 hl hok) (baL_ok (L := L))
  have h64 := pow64 h6
  unfold needM
  rw [if_pos c2, ← knL_knU (by omega) (baL_ok (L := L)), List.map_eq_nil_iff, List.filter_eq_nil_iff]
  intro k hk
  obtain ⟨i, hi⟩ := List.getElem?_of_mem hk
  have hil : i < (baL L n).length := by have := (List.getElem?_eq_some_iff.1 hi).1; simpa [knL_length] using this
  have hr := List.getElem?_eq_getElem hil
  rw [knL_get hr, Option.some.injEq] at hi
  generalize (baL L n)[i] = r at *
  subst hi
  unfold spare
  simp only
  have hro := baL_get hr
  have hrl := openL_lt hro.2.2
  have e1 : fol (knL (baL L n)) (i : Int) r.1 = clo ((baL L n).eraseIdx i) 8 r.1 := by
    show clo (rl (knL (baL L n)) (i : Int)) 8 r.1 = _
    rw [rl_knBut _ hil]
  have hcl : closedM ((baL L n).eraseIdx i) r.1 = true := closedM_iff.2 fun q hq hqs => by
    obtain ⟨j, hne, hj⟩ := List.mem_eraseIdx_iff_getElem?.1 hq
    obtain ⟨g1, g2, g3⟩ := baL_get hj
    have hne2 : q.1 ≠ r.1 := fun e => by
      rw [e] at g1
      obtain ⟨a1, b1⟩ := List.getElem?_eq_some_iff.1 g1
      obtain ⟨a2, b2⟩ := List.getElem?_eq_some_iff.1 hro.1
      exact hne ((List.getElem_inj oS_nodup).1 (b1.trans b2.symm))
    rw [g2]
    exact sub_trans (dif_sub _ _) (openL_sub hro.2.2 g3 hne2 hqs)
  have ok8 : Ok ((baL L n).eraseIdx i) 8 := fun q hq => by
    have := baL_ok q (List.mem_of_mem_eraseIdx hq)
    omega
  rw [e1, (clo_eq_iff ok8 (show r.1 < 2 ^ 8 by omega)).2 hcl, hro.2.1]
  intro hs
  have := sub_antisymm (sub_of_dif hs (sub_refl _)) (sub_clo hrl)
  have hc := (clo_eq_iff hok hrl).1 this
  rw [openL_not hro.2.2] at hc; cases hc
end
end
end Go.V.R6
