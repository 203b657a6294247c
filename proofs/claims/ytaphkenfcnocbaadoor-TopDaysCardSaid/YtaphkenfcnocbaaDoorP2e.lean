/-
  Chapter 02 in plain words: cuts, the most of them in a proof, and that they are no more than the streets that are twice. Conditions: none.
  Chapter 02 in plain words: rounds; when all streets that are left can be gone (Euler's theorem), and which round is the first one. Conditions: none.
-/
import Derived.Test.YtaphkenfcnocbaaDoorP2o
set_option linter.unusedVariables false
set_option linter.unusedSimpArgs false
set_option linter.deprecated false
namespace R2

/-! ### cuts of sides with an odd number of odd corners -/
/-- a side has an odd number of odd corners -/
def oddS (L : G) (S : Nat) : Bool := xs L all1 S.testBit
def isTC (n : Nat) (L : G) (c : Nat) : Bool := (List.range (2 ^ n)).any fun S => oddS L S && (c == cutM L S.testBit)
theorem isTC_iff {n : Nat} {L : G} {c : Nat} : isTC n L c = true ↔ ∃ S, S < 2 ^ n ∧ oddS L S = true ∧ c = cutM L S.testBit := by
  simp [isTC, List.any_eq_true, and_assoc]
/-- all of them, in ascending order -/
def wM (n : Nat) (L : G) : List Nat := ((lx L.length 0).map maskOf).filter (isTC n L)
theorem wM_asc {n : Nat} {L : G} (hl : L.length ≤ 9) : Asc ((wM n L).map ones) := by
  unfold wM
  rw [List.filter_map, List.map_map]
  have e : ((lx L.length 0).filter (isTC n L ∘ maskOf)).map (ones ∘ maskOf) = (lx L.length 0).filter (isTC n L ∘ maskOf) := by
    conv => rhs; rw [← List.map_id ((lx L.length 0).filter (isTC n L ∘ maskOf))]
    exact List.map_congr_left fun l h => (lx_mask hl (List.mem_filter.1 h).1).2
  rw [e]
  exact (lx_asc _ _).filter _
theorem mem_wM {n : Nat} {L : G} (hl : L.length ≤ 9) {c : Nat} : c ∈ wM n L ↔ ∃ S, S < 2 ^ n ∧ oddS L S = true ∧ c = cutM L S.testBit := by
  unfold wM
  rw [List.mem_filter, isTC_iff, List.mem_map]
  constructor
  · exact fun h => h.2
  · intro h
    refine ⟨?_, h⟩
    obtain ⟨S, hS, ho, rfl⟩ := h
    have hp := pow9 hl
    have hc := cutM_lt L S.testBit
    exact ⟨ones (cutM L S.testBit), lx_ones hc, maskOf_ones (by omega)⟩
theorem wM_lt {n : Nat} {L : G} (hl : L.length ≤ 9) {c : Nat} (h : c ∈ wM n L) : c < 2 ^ L.length := by
  obtain ⟨S, _, _, rfl⟩ := (mem_wM hl).1 h
  exact cutM_lt _ _
/-- an odd cut has a street -/
theorem odd_ne {L : G} {J S : Nat → Bool} (h : xs L J S = true) : ∃ i, i < L.length ∧ J i = true ∧ (cutM L S).testBit i = true := by
  obtain ⟨i, hi, hx⟩ := xl_ex h
  have hi := List.mem_range.1 hi
  rw [Bool.and_eq_true] at hx
  exact ⟨i, hi, hx.1, by rw [cutM_bit, hx.2]; simpa using hi⟩
theorem wM_ne {n : Nat} {L : G} (hl : L.length ≤ 9) : ∀ x ∈ wM n L, x ≠ 0 := fun c h => by
  obtain ⟨S, _, ho, rfl⟩ := (mem_wM hl).1 h
  obtain ⟨i, _, _, hb⟩ := odd_ne ho
  intro h0
  rw [h0, Nat.zero_testBit] at hb; cases hb
/-- the list is known by its members and its order -/
theorem wM_of {n : Nat} {L : G} (hl : L.length ≤ 9) {w : List Nat} (hs : Asc (w.map ones)) (hw : ∀ c ∈ w, c < 512) (h : ∀ c, c < 512 → (c ∈ w ↔ ∃ S, S < 2 ^ n ∧ oddS L S = true ∧ c = cutM L S.testBit)) : w = wM n L := by
  have hp := pow9 hl
  have e : w.map ones = (wM n L).map ones := asc_unique hs (wM_asc hl) fun x => by
    rw [List.mem_map, List.mem_map]
    constructor
    · rintro ⟨c, hc, rfl⟩
      exact ⟨c, (mem_wM hl).2 ((h c (hw c hc)).1 hc), rfl⟩
    · rintro ⟨c, hc, rfl⟩
      have := wM_lt hl hc
      exact ⟨c, (h c (by omega)).2 ((mem_wM hl).1 hc), rfl⟩
  have e2 := congrArg (List.map maskOf) e
  rw [List.map_map, List.map_map] at e2
  have k1 : w.map (maskOf ∘ ones) = w := by
    conv => rhs; rw [← List.map_id w]
    exact List.map_congr_left fun c hc => maskOf_ones (hw c hc)
  have k2 : (wM n L).map (maskOf ∘ ones) = wM n L := by
    conv => rhs; rw [← List.map_id (wM n L)]
    exact List.map_congr_left fun c hc => maskOf_ones (by have := wM_lt hl hc; omega)
  rw [k1, k2] at e2
  exact e2

/-! ### the most -/
/-- the reference's way: with the first one, and without it -/
def packL : List Nat → List Nat
  | [] => []
  | l :: w => if (l :: packL (w.filter (disj l))).length < (packL w).length then packL w else l :: packL (w.filter (disj l))
termination_by w => w.length
decreasing_by
  all_goals simp_wf
  all_goals have := List.length_filter_le (disj l) w
  all_goals omega
theorem packL_cons (l : Nat) (w : List Nat) : packL (l :: w) = if (l :: packL (w.filter (disj l))).length < (packL w).length then packL w else l :: packL (w.filter (disj l)) := by rw [packL]
/-- some of a list, no two of which have a thing in common -/
def FamL (w F : List Nat) : Prop := (∀ x ∈ F, x ∈ w) ∧ F.Pairwise fun a b => disj a b = true
theorem packL_spec : ∀ (n : Nat) (w : List Nat), w.length ≤ n → (∀ x ∈ w, x ≠ 0) → FamL w (packL w) ∧ (∀ F, FamL w F → F.length ≤ (packL w).length) ∧ first w (packL w).length = some (packL w)
  | _, [], _, _ => by
    rw [packL]
    refine ⟨⟨by simp, List.Pairwise.nil⟩, fun F hF => ?_, first_zero _⟩
    cases F with
    | nil => simp
    | cons x F => have := hF.1 x (by simp); cases this
  | n + 1, l :: w, hn, h0 => by
    simp only [List.length_cons] at hn
    have hf := List.length_filter_le (disj l) w
    obtain ⟨a1, a2, a3⟩ := packL_spec n (w.filter (disj l)) (by omega) fun x hx => h0 x (by have := (List.mem_filter.1 hx).1; simp [this])
    obtain ⟨b1, b2, b3⟩ := packL_spec n w (by omega) fun x hx => h0 x (by simp [hx])
    have hbig : ∀ F, FamL (l :: w) F → F.length ≤ 1 + (packL (w.filter (disj l))).length ∨ F.length ≤ (packL w).length := fun F hF => by
      by_cases hm : l ∈ F
      · obtain ⟨A, B, rfl⟩ := List.append_of_mem hm
        left
        have hd := hF.2
        rw [List.pairwise_append] at hd
        obtain ⟨d1, d2, d3⟩ := hd
        rw [List.pairwise_cons] at d2
        have hl0 := disj_self (h0 l (by simp))
        have := a2 (A ++ B) ⟨fun x hx => by
          have hd' : disj l x = true := by
            rcases List.mem_append.1 hx with hx | hx
            · rw [disj_comm]; exact d3 x hx l (by simp)
            · exact d2.1 x hx
          have hx' : x ∈ l :: w := hF.1 x (by rcases List.mem_append.1 hx with hx | hx <;> simp [hx])
          rcases List.mem_cons.1 hx' with rfl | hx'
          · rw [hl0] at hd'; cases hd'
          · exact List.mem_filter.2 ⟨hx', hd'⟩, List.pairwise_append.2 ⟨d1, d2.2, fun a ha b hb => d3 a ha b (by simp [hb])⟩⟩
        simp only [List.length_append, List.length_cons] at *
        omega
      · right
        exact b2 F ⟨fun x hx => by
          rcases List.mem_cons.1 (hF.1 x hx) with rfl | h
          · exact absurd hx hm
          · exact h, hF.2⟩
    rw [packL_cons]
    simp only [List.length_cons]
    split
    · rename_i hlt
      refine ⟨⟨fun x hx => by simp [b1.1 x hx], b1.2⟩, fun F hF => by rcases hbig F hF with h | h <;> omega, ?_⟩
      obtain ⟨k, hk⟩ : ∃ k, (packL w).length = k + 1 := ⟨(packL w).length - 1, by omega⟩
      rw [hk] at b3 ⊢
      rw [first_cons]
      have hnone : first (w.filter (disj l)) k = none := by
        cases hr : first (w.filter (disj l)) k with
        | none => rfl
        | some r =>
          obtain ⟨g1, g2, g3⟩ := first_fam _ _ k r (Nat.le_refl _) hr
          have := a2 r ⟨g2, g3⟩
          omega
      rw [hnone]
      exact b3
    · rename_i hlt
      refine ⟨⟨fun x hx => ?_, List.pairwise_cons.2 ⟨fun x hx => (List.mem_filter.1 (a1.1 x hx)).2, a1.2⟩⟩, fun F hF => by rw [List.length_cons]; rcases hbig F hF with h | h <;> omega, ?_⟩
      · rcases List.mem_cons.1 hx with rfl | hx
        · simp
        · have := (List.mem_filter.1 (a1.1 x hx)).1; simp [this]
      · rw [List.length_cons, first_cons, a3]
/-- the most within s, and the program's choice -/
theorem pack_greedy {w : List Nat} (h0 : ∀ x ∈ w, x ≠ 0) {s : Nat} (hs : ∀ x ∈ w, sub x s = true) : (packL w).length = mx w s ∧ greedy (mx w) w s = packL w := by
  obtain ⟨h1, h2, h3⟩ := packL_spec _ w (Nat.le_refl _) h0
  have hm := mx_most h0
  have e : (packL w).length = mx w s := by
    apply Nat.le_antisymm
    · exact hm.le s _ ⟨fun x hx => ⟨h1.1 x hx, hs x (h1.1 x hx)⟩, h1.2⟩
    · obtain ⟨F, hF, hl⟩ := hm.att s
      rw [← hl]
      exact h2 F ⟨fun x hx => (hF.mem x hx).1, hF.dis⟩
  refine ⟨e, ?_⟩
  have hg := greedy_first hm h0 w s (fun x hx => hx) fun F hF _ x hx => (hF.mem x hx).1
  rw [List.filter_eq_self.2 (fun x hx => hs x hx), ← e, h3] at hg
  exact (Option.some.inj hg).symm
/-- the cuts of a proof with as many as possible -/
def cutsM (n : Nat) (L : G) : List (List Nat) := (packL (wM n L)).map ones
theorem wM_sub {n : Nat} {L : G} (hl : L.length ≤ 9) : ∀ x ∈ wM n L, sub x (fullM L) = true := fun x hx => sub_iff.2 fun i hi => by
  rw [fullM_bit, decide_eq_true_eq]
  have h := wM_lt hl hx
  rcases Nat.lt_or_ge i L.length with h' | h'
  · exact h'
  · rw [Nat.testBit_lt_two_pow (Nat.lt_of_lt_of_le h (Nat.pow_le_pow_right (by decide) h'))] at hi; cases hi
/-- how many more can be had if some streets are used -/
noncomputable def mostM (n : Nat) (L : G) (u : Nat) : Nat := mx (wM n L) (dif (fullM L) u)
theorem sub_dif_full {n : Nat} {L : G} (hl : L.length ≤ 9) {c u : Nat} (hc : c ∈ wM n L) : sub c (dif (fullM L) u) = (c &&& u == 0) := by
  rw [Bool.eq_iff_iff, sub_dif]
  constructor
  · rintro ⟨_, h⟩; rw [disj_comm] at h; exact h
  · intro h; exact ⟨wM_sub hl c hc, by rw [disj_comm]; exact h⟩
theorem dif_dif (f u c : Nat) : dif (dif f u) c = dif f (u ||| c) := by
  apply Nat.eq_of_testBit_eq; intro i
  rw [dif_bit, dif_bit, dif_bit, Nat.testBit_or]
  cases f.testBit i <;> cases u.testBit i <;> cases c.testBit i <;> rfl
theorem mostM_step {n : Nat} {L : G} (hl : L.length ≤ 9) (u : Nat) : mostM n L u = (wM n L).foldl (fun b c => if (c &&& u == 0) = true then max b (1 + mostM n L (u ||| c)) else b) 0 := by
  unfold mostM
  rw [mx_step' (wM_ne hl)]
  have h : ∀ (v : List Nat) (b : Nat), (∀ x ∈ v, x ∈ wM n L) → v.foldl (fun b l => if sub l (dif (fullM L) u) = true then max b (1 + mx (wM n L) (dif (dif (fullM L) u) l)) else b) b = v.foldl (fun b c => if (c &&& u == 0) = true then max b (1 + mx (wM n L) (dif (fullM L) (u ||| c))) else b) b := by
    intro v
    induction v with
    | nil => intro b _; rfl
    | cons x v ih =>
      intro b hv
      rw [List.foldl_cons, List.foldl_cons, sub_dif_full hl (hv x (by simp)), dif_dif]
      exact ih _ fun y hy => hv y (by simp [hy])
  exact h _ 0 fun x hx => hx
/-- the program's choice, by used streets -/
noncomputable def chooseM (n : Nat) (L : G) : List Nat → Nat → List Nat
  | [], _ => []
  | c :: w, u => if (c &&& u == 0) = true ∧ 1 + mostM n L (u ||| c) = mostM n L u then c :: chooseM n L w (u ||| c) else chooseM n L w u
theorem choose_greedy {n : Nat} {L : G} (hl : L.length ≤ 9) : ∀ (v : List Nat) (u : Nat), (∀ x ∈ v, x ∈ wM n L) → chooseM n L v u = greedy (mx (wM n L)) v (dif (fullM L) u)
  | [], _, _ => rfl
  | c :: v, u, h => by
    have hv : ∀ x ∈ v, x ∈ wM n L := fun x hx => h x (by simp [hx])
    rw [chooseM, greedy, choose_greedy hl v _ hv, choose_greedy hl v _ hv, sub_dif_full hl (h c (by simp)), dif_dif]
    rfl
theorem choose_all {n : Nat} {L : G} (hl : L.length ≤ 9) : chooseM n L (wM n L) 0 = packL (wM n L) := by
  rw [choose_greedy hl _ _ fun x hx => hx]
  have e : dif (fullM L) 0 = fullM L := by
    apply Nat.eq_of_testBit_eq; intro i
    rw [dif_bit]; simp
  rw [e, (pack_greedy (wM_ne hl) (wM_sub hl)).2]

/-! ### no more than the streets that are twice -/
theorem ones_len_sub {a b : Nat} (h : sub a b = true) : (ones a).length ≤ (ones b).length := by
  unfold ones
  have : ∀ l : List Nat, (l.filter fun i => a.testBit i).length ≤ (l.filter fun i => b.testBit i).length := by
    intro l
    induction l with
    | nil => simp
    | cons x l ih =>
      rw [List.filter_cons, List.filter_cons]
      cases hx : a.testBit x
      · simp only [Bool.false_eq_true, if_false]
        split
        · simp only [List.length_cons]; omega
        · exact ih
      · rw [sub_iff.1 h x hx]; simp only [if_true, List.length_cons]; omega
  exact this _
theorem ones_len_lt {a b i : Nat} (hi : i < 9) (h : sub a b = true) (ha : a.testBit i = false) (hb : b.testBit i = true) : (ones a).length < (ones b).length := by
  unfold ones
  have : ∀ l : List Nat, i ∈ l → (l.filter fun i => a.testBit i).length < (l.filter fun i => b.testBit i).length := by
    intro l
    induction l with
    | nil => simp
    | cons x l ih =>
      intro hm
      rw [List.filter_cons, List.filter_cons]
      by_cases e : x = i
      · subst e
        rw [ha, hb]
        have hle : (l.filter fun i => a.testBit i).length ≤ (l.filter fun i => b.testBit i).length := by
          clear ih hm
          induction l with
          | nil => simp
          | cons y l ih =>
            rw [List.filter_cons, List.filter_cons]
            cases hx : a.testBit y
            · simp only [Bool.false_eq_true, if_false]
              split
              · simp only [List.length_cons]; omega
              · exact ih
            · rw [sub_iff.1 h y hx]; simp only [if_true, List.length_cons]; omega
        simp only [Bool.false_eq_true, if_false, if_true, List.length_cons]; omega
      · have ih := ih (by rcases List.mem_cons.1 hm with h | h; exact absurd h.symm e; exact h)
        cases hx : a.testBit x
        · simp only [Bool.false_eq_true, if_false]
          split
          · simp only [List.length_cons]; omega
          · exact ih
        · rw [sub_iff.1 h x hx]; simp only [if_true, List.length_cons]; omega
  exact this _ (List.mem_range.2 hi)
end R2

namespace R2

def inc (e : E) (v : Nat) : Bool := e.a == v || e.b == v
def other (e : E) (u : Nat) : Nat := e.a + e.b - u
def lf (left : List Nat) (i : Nat) : Nat := left.getD i 0
def decL (left : List Nat) (i : Nat) : List Nat := left.set i (lf left i - 1)
def pOf (left : List Nat) : Nat → Bool := fun i => decide (0 < lf left i)
def oddOf (left : List Nat) : Nat → Bool := fun i => lf left i % 2 == 1
abbrev st (L : G) (i : Nat) : E := L.getD i default

theorem lf_dec {left : List Nat} {i j : Nat} (hi : i < left.length) : lf (decL left i) j = if j = i then lf left i - 1 else lf left j := by
  unfold lf decL
  rw [List.getD_eq_getElem?_getD, List.getElem?_set]
  by_cases e : j = i
  · subst e; rw [if_pos rfl, if_pos rfl, if_pos hi]; rfl
  · rw [if_neg (fun h => e h.symm), if_neg e, List.getD_eq_getElem?_getD]
theorem decL_length (left : List Nat) (i : Nat) : (decL left i).length = left.length := by simp [decL]
theorem sum_dec : ∀ {left : List Nat} {i : Nat}, 0 < lf left i → (decL left i).sum + 1 = left.sum
  | [], i, h => by simp [lf] at h
  | x :: l, 0, h => by simp [lf, decL] at h ⊢; omega
  | x :: l, i + 1, h => by
    have ih := sum_dec (left := l) (i := i) (by simpa [lf] using h)
    simp only [decL, lf, List.getD_cons_succ, List.set_cons_succ, List.sum_cons] at ih ⊢
    omega
theorem sum_zero {left : List Nat} (h : left.sum = 0) (i : Nat) : lf left i = 0 := by
  induction left generalizing i with
  | nil => simp [lf]
  | cons x l ih =>
    simp only [List.sum_cons] at h
    cases i with
    | zero => simp [lf]; omega
    | succ i => have := ih (by omega) i; simpa [lf] using this
theorem sum_pos {left : List Nat} (h : 0 < left.sum) : ∃ i, i < left.length ∧ 0 < lf left i := by
  induction left with
  | nil => simp at h
  | cons x l ih =>
    by_cases hx : 0 < x
    · exact ⟨0, by simp, by simpa [lf] using hx⟩
    · simp only [List.sum_cons] at h
      obtain ⟨i, h1, h2⟩ := ih (by omega)
      exact ⟨i + 1, by simpa using h1, by simpa [lf] using h2⟩
theorem lf_lt {left : List Nat} {i : Nat} (h : 0 < lf left i) : i < left.length := by
  rcases Nat.lt_or_ge i left.length with h1 | h1
  · exact h1
  · simp [lf, List.getD_eq_getElem?_getD, List.getElem?_eq_none h1] at h

/-! ### the reference's way -/
/-- the first of the first j streets behind which the others can be gone -/
def tryG (L : G) (go : Nat → List Nat → Option (List Nat)) (u : Nat) (left : List Nat) : Nat → Option (List Nat)
  | 0 => none
  | j + 1 => match tryG L go u left j with
    | some l => some l
    | none => if (pOf left j && inc (st L j) u) = true then (go (other (st L j) u) (decL left j)).map (j :: ·) else none
def goesF (L : G) : Nat → Nat → List Nat → Option (List Nat)
  | 0, u, _ => if u = 0 then some [] else none
  | k + 1, u, left => tryG L (goesF L k) u left L.length
/-- a round from a corner, of what is left -/
def Walk (L : G) : Nat → List Nat → List Nat → Prop
  | u, left, [] => u = 0 ∧ left.sum = 0
  | u, left, i :: l => i < L.length ∧ 0 < lf left i ∧ inc (st L i) u = true ∧ Walk L (other (st L i) u) (decL left i) l
theorem tryG_some {L : G} {go : Nat → List Nat → Option (List Nat)} {u : Nat} {left l : List Nat} : ∀ {j : Nat}, tryG L go u left j = some l → ∃ i m, i < j ∧ l = i :: m ∧ 0 < lf left i ∧ inc (st L i) u = true ∧ go (other (st L i) u) (decL left i) = some m ∧ ∀ x, x < i → 0 < lf left x → inc (st L x) u = true → go (other (st L x) u) (decL left x) = none
  | 0, h => by cases h
  | j + 1, h => by
    rw [tryG] at h
    cases ht : tryG L go u left j with
    | some l' =>
      rw [ht] at h
      simp only [Option.some.injEq] at h
      subst h
      obtain ⟨i, m, h1, h2⟩ := tryG_some ht
      exact ⟨i, m, by omega, h2⟩
    | none =>
      rw [ht] at h
      simp only at h
      split at h
      · rename_i hp
        rw [Bool.and_eq_true] at hp
        cases hg : go (other (st L j) u) (decL left j) with
        | none => rw [hg] at h; cases h
        | some m =>
          rw [hg] at h
          simp only [Option.map_some, Option.some.injEq] at h
          refine ⟨j, m, by omega, h.symm, by simpa [pOf] using hp.1, hp.2, hg, fun x hx hxl hxi => ?_⟩
          clear hg h hp
          induction j with
          | zero => omega
          | succ j ih =>
            rw [tryG] at ht
            cases ht2 : tryG L go u left j with
            | some l' => rw [ht2] at ht; cases ht
            | none =>
              rw [ht2] at ht
              simp only at ht
              by_cases e : x = j
              · subst e
                rw [if_pos (by rw [Bool.and_eq_true]; exact ⟨by simpa [pOf] using hxl, hxi⟩)] at ht
                cases hg2 : go (other (st L x) u) (decL left x) with
                | none => rfl
                | some m => rw [hg2] at ht; cases ht
              · exact ih ht2 (by omega)
      · cases h
theorem tryG_none {L : G} {go : Nat → List Nat → Option (List Nat)} {u : Nat} {left : List Nat} : ∀ {j : Nat}, tryG L go u left j = none → ∀ x, x < j → 0 < lf left x → inc (st L x) u = true → go (other (st L x) u) (decL left x) = none
  | 0, _, x, hx, _, _ => by omega
  | j + 1, ht, x, hx, hxl, hxi => by
    rw [tryG] at ht
    cases ht2 : tryG L go u left j with
    | some l' => rw [ht2] at ht; cases ht
    | none =>
      rw [ht2] at ht
      simp only at ht
      by_cases e : x = j
      · subst e
        rw [if_pos (by rw [Bool.and_eq_true]; exact ⟨by simpa [pOf] using hxl, hxi⟩)] at ht
        cases hg2 : go (other (st L x) u) (decL left x) with
        | none => rfl
        | some m => rw [hg2] at ht; cases ht
      · exact tryG_none ht2 x (by omega) hxl hxi
theorem goesF_walk {L : G} : ∀ {k u : Nat} {left l : List Nat}, left.sum = k → goesF L k u left = some l → Walk L u left l
  | 0, u, left, l, hs, h => by
    rw [goesF] at h
    split at h
    · cases h; exact ⟨by assumption, hs⟩
    · cases h
  | k + 1, u, left, l, hs, h => by
    obtain ⟨i, m, h1, rfl, h3, h4, h5, _⟩ := tryG_some h
    exact ⟨h1, h3, h4, goesF_walk (by have := sum_dec h3; omega) h5⟩
theorem walk_goesF {L : G} : ∀ {k u : Nat} {left l : List Nat}, left.sum = k → Walk L u left l → ∃ r, goesF L k u left = some r
  | 0, u, left, [], hs, h => ⟨[], by rw [goesF, if_pos h.1]⟩
  | 0, u, left, i :: l, hs, h => by have := sum_zero hs i; have := h.2.1; omega
  | k + 1, u, left, [], hs, h => by have := h.2; omega
  | k + 1, u, left, i :: l, hs, h => by
    cases hg : goesF L (k + 1) u left with
    | some r => exact ⟨r, rfl⟩
    | none =>
      obtain ⟨r, hr⟩ := walk_goesF (k := k) (by have := sum_dec h.2.1; omega) h.2.2.2
      have := tryG_none (show tryG L (goesF L k) u left L.length = none from hg) i h.1 h.2.1 h.2.2.1
      rw [hr] at this; cases this

/-! ### odd corners of what is left -/
def Par (n : Nat) (L : G) (u : Nat) (left : List Nat) : Prop := ∀ v, v < n → xs L (oddOf left) (pt v) = ((v == u) ^^ (v == 0))
theorem xs_single {L : G} {i : Nat} (hi : i < L.length) (S : Nat → Bool) : xs L (fun j => j == i) S = cross (st L i) S := by
  unfold xs
  rw [← xl_range_pt hi (fun j => cross (st L j) S)]
  apply xl_congr
  intro j _
  show ((j == i) && cross (st L j) S) = (cross (st L j) S && (i == j))
  rw [Bool.and_comm, show (j == i) = (i == j) from Bool.beq_comm]
theorem oddOf_dec {left : List Nat} {i : Nat} (h : 0 < lf left i) (j : Nat) : oddOf (decL left i) j = (oddOf left j ^^ (j == i)) := by
  unfold oddOf
  rw [lf_dec (lf_lt h)]
  by_cases e : j = i
  · subst e
    rw [if_pos rfl]
    rcases Nat.mod_two_eq_zero_or_one (lf left j) with h2 | h2
    · rw [show (lf left j - 1) % 2 = 1 by omega, h2]; simp
    · rw [show (lf left j - 1) % 2 = 0 by omega, h2]; simp
  · rw [if_neg e, show (j == i) = false by simpa using e, Bool.xor_false]
theorem cross_other {e : E} (hab : e.a < e.b) {u : Nat} (hu : inc e u = true) (v : Nat) : cross e (pt v) = ((v == u) ^^ (v == other e u)) := by
  rw [cross_pt hab]
  unfold inc at hu
  rw [Bool.or_eq_true, beq_iff_eq, beq_iff_eq] at hu
  unfold other
  rcases hu with rfl | rfl
  · rw [show e.a + e.b - e.a = e.b by omega]
    by_cases h1 : v = e.a
    · subst h1
      have h2 : e.b ≠ e.a := by omega
      have h3 : e.a ≠ e.b := by omega
      simp [h2, h3]
    · have h1' : e.a ≠ v := fun h => h1 h.symm
      rw [show (e.a == v) = false by simpa using h1', show (v == e.a) = false by simpa using h1, Bool.false_or, Bool.false_xor]
      exact Bool.beq_comm
  · rw [show e.a + e.b - e.b = e.a by omega]
    by_cases h1 : v = e.b
    · subst h1
      have h2 : e.b ≠ e.a := by omega
      have h3 : e.a ≠ e.b := by omega
      simp [h2, h3]
    · have h1' : e.b ≠ v := fun h => h1 h.symm
      rw [show (e.b == v) = false by simpa using h1', show (v == e.b) = false by simpa using h1, Bool.or_false, Bool.false_xor]
      exact Bool.beq_comm
theorem other_lt {n : Nat} {e : E} (hb : e.a < e.b ∧ e.b < n) {u : Nat} (hu : inc e u = true) : other e u < n := by
  unfold inc at hu
  rw [Bool.or_eq_true, beq_iff_eq, beq_iff_eq] at hu
  unfold other
  rcases hu with rfl | rfl <;> omega
theorem xs_dec {n : Nat} {L : G} (hv : Val n L) {u i : Nat} {left : List Nat} (hi : i < L.length) (h : 0 < lf left i) (hu : inc (st L i) u = true) (v : Nat) : xs L (oddOf (decL left i)) (pt v) = (xs L (oddOf left) (pt v) ^^ ((v == u) ^^ (v == other (st L i) u))) := by
  rw [show oddOf (decL left i) = fun j => oddOf left j ^^ (j == i) from funext fun j => oddOf_dec h j, xs_xorJ, xs_single hi, cross_other (hv.get hi).1 hu]
theorem par_dec {n : Nat} {L : G} (hv : Val n L) {u i : Nat} {left : List Nat} (hi : i < L.length) (h : 0 < lf left i) (hu : inc (st L i) u = true) : Par n L (other (st L i) u) (decL left i) ↔ Par n L u left := by
  unfold Par
  constructor
  · intro k v hn
    have := k v hn
    rw [xs_dec hv hi h hu] at this
    revert this
    cases xs L (oddOf left) (pt v) <;> cases (v == u) <;> cases (v == other (st L i) u) <;> cases (v == 0) <;> simp
  · intro k v hn
    rw [xs_dec hv hi h hu, k v hn]
    cases (v == u) <;> cases (v == other (st L i) u) <;> cases (v == 0) <;> rfl
theorem oddOf_zero {left : List Nat} (h : left.sum = 0) (L : G) (S : Nat → Bool) : xs L (oddOf left) S = false := by
  unfold xs
  rw [← xl_false (List.range L.length)]
  apply xl_congr
  intro i _
  unfold oddOf
  rw [sum_zero h i]; rfl
/-- no street that is left leads out: then one is there and at corner 0, or neither -/
theorem par_closed {n : Nat} {L : G} (hv : Val n L) {u : Nat} {left : List Nat} (hp : Par n L u left) (hu : u < n) {S : Nat → Bool} (hc : Closed L (pOf left) S) : S u = S 0 := by
  have h1 : xs L (oddOf left) S = false := by
    unfold xs
    rw [← xl_false (List.range L.length)]
    apply xl_congr
    intro i hi
    cases ho : oddOf left i with
    | false => rfl
    | true =>
      have : pOf left i = true := by
        unfold oddOf at ho; unfold pOf
        rw [beq_iff_eq] at ho
        rw [decide_eq_true_eq]; omega
      have := hc i (List.mem_range.1 hi) this
      unfold cross
      rw [this]; simp
  rw [xs_sum hv] at h1
  have e : xl (List.range n) (fun v => S v && xs L (oddOf left) (pt v)) = xl (List.range n) (fun v => (S v && (u == v)) ^^ (S v && (0 == v))) := xl_congr fun v hx => by
    rw [hp v (List.mem_range.1 hx), show (v == u) = (u == v) from Bool.beq_comm, show (v == 0) = (0 == v) from Bool.beq_comm]
    exact bx_r _ _ _
  rw [e, xl_xor, xl_range_pt hu, xl_range_pt (by omega)] at h1
  revert h1
  cases S u <;> cases S 0 <;> simp

/-! ### what is left can be reached -/
def mayB (L : G) (u : Nat) (left : List Nat) : Bool := (List.range L.length).all fun i => !(pOf left i) || ((reachM L (pOf left) (2 ^ u) &&& ends (st L i)) != 0)
def Rch (L : G) (p : Nat → Bool) (u v : Nat) : Prop := ∀ S, Closed L p S → S u = true → S v = true
def May (L : G) (u : Nat) (left : List Nat) : Prop := ∀ i, i < L.length → 0 < lf left i → Rch L (pOf left) u (st L i).a
theorem two_pow_bit (u v : Nat) : (2 ^ u).testBit v = true ↔ v = u := by rw [Nat.testBit_two_pow, decide_eq_true_eq]; exact eq_comm
theorem may_iff {n : Nat} {L : G} (hv : Val n L) (h6 : n ≤ 6) {u : Nat} (hu : u < n) (left : List Nat) : mayB L u left = true ↔ May L u left := by
  obtain ⟨c1, c2, c3, c4⟩ := reachM_spec hv h6 (pOf left) (Nat.pow_lt_pow_right (by decide) hu : 2 ^ u < 2 ^ n)
  unfold mayB
  rw [List.all_eq_true]
  constructor
  · intro h i hi hl S hc hS
    have := h i (List.mem_range.2 hi)
    have hp : pOf left i = true := by simpa [pOf] using hl
    rw [hp, Bool.not_true, Bool.false_or, and_ends, ← c1 i hi hp, Bool.or_self] at this
    exact c4 S hc (fun v hx => by rw [(two_pow_bit u v).1 hx]; exact hS) _ this
  · intro h i hi
    have hi := List.mem_range.1 hi
    cases hp : pOf left i with
    | false => rfl
    | true =>
      rw [Bool.not_true, Bool.false_or, and_ends, Bool.or_eq_true]
      exact .inl (h i hi (by simpa [pOf] using hp) _ c1 (sub_iff.1 c2 u ((two_pow_bit u u).2 rfl)))
theorem pOf_dec {left : List Nat} {i j : Nat} (h : 0 < lf left i) (hj : pOf (decL left i) j = true) : pOf left j = true := by
  unfold pOf at *
  rw [lf_dec (lf_lt h)] at hj
  rw [decide_eq_true_eq] at *
  split at hj
  · subst_vars; exact h
  · exact hj
theorem pOf_dec_ne {left : List Nat} {i j : Nat} (h : 0 < lf left i) (hne : j ≠ i) : pOf (decL left i) j = pOf left j := by
  unfold pOf
  rw [lf_dec (lf_lt h), if_neg hne]
theorem closed_ends {L : G} {p S : Nat → Bool} (hc : Closed L p S) {i u : Nat} (hi : i < L.length) (hp : p i = true) (hu : inc (st L i) u = true) : S u = S (other (st L i) u) := by
  have := hc i hi hp
  unfold inc at hu
  rw [Bool.or_eq_true, beq_iff_eq, beq_iff_eq] at hu
  unfold other
  rcases hu with h | h
  · subst h; rw [this, show (st L i).a + (st L i).b - (st L i).a = (st L i).b by omega]
  · subst h; rw [← this, show (st L i).a + (st L i).b - (st L i).b = (st L i).a by omega]
theorem walk_may {L : G} : ∀ {u : Nat} {left l : List Nat}, Walk L u left l → May L u left
  | u, left, [], h => fun i _ hl => by have := sum_zero h.2 i; omega
  | u, left, i :: l, h => fun j hj hl S hc hS => by
    have ih := walk_may h.2.2.2
    have ho : S (other (st L i) u) = true := by rw [← closed_ends hc h.1 (by simpa [pOf] using h.2.1) h.2.2.1]; exact hS
    by_cases e : j = i ∧ lf left i = 1
    · obtain ⟨rfl, _⟩ := e
      have h1 := hc j hj (by simpa [pOf] using h.2.1)
      have h2 := h.2.2.1
      unfold inc at h2
      rw [Bool.or_eq_true, beq_iff_eq, beq_iff_eq] at h2
      rcases h2 with h2 | h2
      · rw [h2]; exact hS
      · rw [h1, h2]; exact hS
    · refine ih j hj ?_ S (fun x hx hp => hc x hx (pOf_dec h.2.1 hp)) ho
      rw [lf_dec (lf_lt h.2.1)]
      split
      · rename_i e2
        have : lf left i ≠ 1 := fun h => e ⟨e2, h⟩
        have := h.2.1
        omega
      · exact hl
/-- there is a street to go on with -/
theorem good_street {n : Nat} {L : G} (hv : Val n L) {u : Nat} {left : List Nat} (hlen : left.length = L.length) (hu : u < n) (hp : Par n L u left) (hm : May L u left) (hs : 0 < left.sum) : ∃ i, i < L.length ∧ 0 < lf left i ∧ inc (st L i) u = true ∧ May L (other (st L i) u) (decL left i) := by
  -- a street is here
  obtain ⟨i, hi, hl, hinc⟩ : ∃ i, i < L.length ∧ 0 < lf left i ∧ inc (st L i) u = true := by
    refine Classical.byContradiction fun hn => ?_
    obtain ⟨j, hj, hjl⟩ := sum_pos hs
    rw [hlen] at hj
    have := hm j hj hjl (fun v => v == u) (fun x hx hxp => by
      have hx' : ¬ inc (st L x) u = true := fun h => hn ⟨x, hx, by simpa [pOf] using hxp, h⟩
      unfold inc at hx'
      rw [Bool.or_eq_true, beq_iff_eq, beq_iff_eq] at hx'
      show ((st L x).a == u) = ((st L x).b == u)
      rw [show ((st L x).a == u) = false by simpa using fun h => hx' (.inl h), show ((st L x).b == u) = false by simpa using fun h => hx' (.inr h)]) (by simp)
    exact hn ⟨j, hj, hjl, by unfold inc; rw [this]; rfl⟩
  -- if one can come back, the street serves
  have back : ∀ i, i < L.length → 0 < lf left i → inc (st L i) u = true → Rch L (pOf (decL left i)) (other (st L i) u) u → May L (other (st L i) u) (decL left i) := by
    intro i hi hl hinc hr j hj hjl S hc hS
    have hSu := hr S hc hS
    refine hm j hj (by simpa [pOf] using pOf_dec hl (show pOf (decL left i) j = true by simpa [pOf] using hjl)) S (fun x hx hxp => ?_) hSu
    by_cases e : x = i
    · subst e
      unfold inc at hinc
      rw [Bool.or_eq_true, beq_iff_eq, beq_iff_eq] at hinc
      unfold other at hS
      rcases hinc with h | h
      · rw [h, hSu]; rw [← h, show (st L x).a + (st L x).b - (st L x).a = (st L x).b by omega] at hS; exact hS.symm
      · rw [h, hSu]; rw [← h, show (st L x).a + (st L x).b - (st L x).b = (st L x).a by omega] at hS; exact hS
    · exact hc x hx (by rw [pOf_dec_ne hl e]; exact hxp)
  by_cases hA : Rch L (pOf (decL left i)) (other (st L i) u) u
  · exact ⟨i, hi, hl, hinc, back i hi hl hinc hA⟩
  by_cases hB : ∃ k, k < L.length ∧ 0 < lf (decL left i) k ∧ inc (st L k) u = true
  · -- another street is here: it serves
    obtain ⟨k, hk, hkl', hkinc⟩ := hB
    have hki : k ≠ i := by
      rintro rfl
      refine hA fun S hc hS => ?_
      rw [closed_ends hc hk (by simpa [pOf] using hkl') hkinc]; exact hS
    have hkl : 0 < lf left k := by rw [lf_dec (lf_lt hl), if_neg hki] at hkl'; exact hkl'
    refine ⟨k, hk, hkl, hkinc, back k hk hkl hkinc ?_⟩
    refine Classical.byContradiction fun hC => hA fun S1 c1 s1 => Classical.byContradiction fun n1 => hC fun S2 c2 s2 => Classical.byContradiction fun n2 => ?_
    have p1 := (par_dec hv hi hl hinc).2 hp
    have p2 := (par_dec hv hk hkl hkinc).2 hp
    have z1 := par_closed hv p1 (other_lt (hv.get hi) hinc) c1
    have z2 := par_closed hv p2 (other_lt (hv.get hk) hkinc) c2
    have c3 : Closed L (pOf (decL left i)) (fun v => S1 v && S2 v) := by
      intro x hx hxp
      have h1 := c1 x hx hxp
      show (S1 (st L x).a && S2 (st L x).a) = (S1 (st L x).b && S2 (st L x).b)
      rw [← h1]
      cases hS : S1 (st L x).a with
      | false => rfl
      | true =>
        have hni : ¬ inc (st L x) u = true := by
          intro h
          unfold inc at h
          rw [Bool.or_eq_true, beq_iff_eq, beq_iff_eq] at h
          rcases h with h | h
          · rw [h] at hS; exact n1 hS
          · rw [h1, h] at hS; exact n1 hS
        have hxk : x ≠ k := fun e => hni (e ▸ hkinc)
        have := c2 x hx (by rw [pOf_dec_ne hkl hxk]; exact pOf_dec hl hxp)
        rw [this]
    have z3 := par_closed hv p1 (other_lt (hv.get hi) hinc) c3
    have z3' : (S1 (other (st L i) u) && S2 (other (st L i) u)) = (S1 0 && S2 0) := z3
    rw [← z1, ← z2, s1, s2] at z3'
    have z3 : S2 (other (st L i) u) = true := z3'
    have h4 := closed_ends c2 hi (by rw [pOf_dec_ne hkl (fun e => hki e.symm)]; simpa [pOf] using hl) hinc
    rw [z3] at h4
    exact n2 h4
  · -- no street stays here
    refine ⟨i, hi, hl, hinc, fun j hj hjl S hc hS => ?_⟩
    have hnj : ∀ x, x < L.length → 0 < lf (decL left i) x → (st L x).a ≠ u ∧ (st L x).b ≠ u := fun x hx hxl => by
      have : ¬ inc (st L x) u = true := fun h => hB ⟨x, hx, hxl, h⟩
      unfold inc at this
      rw [Bool.or_eq_true, beq_iff_eq, beq_iff_eq] at this
      exact ⟨fun h => this (.inl h), fun h => this (.inr h)⟩
    have h1 := hm j hj (by simpa [pOf] using pOf_dec hl (show pOf (decL left i) j = true by simpa [pOf] using hjl)) (fun v => S v || v == u) (fun x hx hxp => by
      show (S (st L x).a || (st L x).a == u) = (S (st L x).b || (st L x).b == u)
      by_cases hx2 : pOf (decL left i) x = true
      · obtain ⟨a1, a2⟩ := hnj x hx (by simpa [pOf] using hx2)
        rw [show ((st L x).a == u) = false by simpa using a1, show ((st L x).b == u) = false by simpa using a2, Bool.or_false, Bool.or_false]
        exact hc x hx hx2
      · have e : x = i := Classical.byContradiction fun e => hx2 (by rw [pOf_dec_ne hl e]; exact hxp)
        subst e
        unfold inc at hinc
        rw [Bool.or_eq_true, beq_iff_eq, beq_iff_eq] at hinc
        unfold other at hS
        rcases hinc with h | h
        · rw [← h, show (st L x).a + (st L x).b - (st L x).a = (st L x).b by omega] at hS; rw [← h, hS]; simp
        · rw [← h, show (st L x).a + (st L x).b - (st L x).b = (st L x).a by omega] at hS; rw [← h, hS]; simp) (by simp)
    have h2 := (hnj j hj hjl).1
    have h3 : (S (st L j).a || (st L j).a == u) = true := h1
    rw [show ((st L j).a == u) = false by rw [beq_eq_false_iff_ne]; exact h2, Bool.or_false] at h3
    exact h3
/-- Euler: what is left can be gone -/
theorem euler {n : Nat} {L : G} (hv : Val n L) : ∀ (k u : Nat) (left : List Nat), left.length = L.length → left.sum = k → u < n → Par n L u left → May L u left → ∃ l, Walk L u left l
  | 0, u, left, _, hs, hu, hp, _ => by
    refine ⟨[], ?_, hs⟩
    have := hp u hu
    rw [oddOf_zero hs] at this
    simpa using this
  | k + 1, u, left, hlen, hs, hu, hp, hm => by
    obtain ⟨i, hi, hl, hinc, hm'⟩ := good_street hv hlen hu hp hm (by omega)
    obtain ⟨l, h⟩ := euler hv k (other (st L i) u) (decL left i) (by rw [decL_length, hlen]) (by have := sum_dec hl; omega) (other_lt (hv.get hi) hinc) ((par_dec hv hi hl hinc).2 hp) hm'
    exact ⟨i :: l, hi, hl, hinc, h⟩
/-- one step: the first street behind which the others can be reached is the first one of the first round -/
theorem step_first {n : Nat} {L : G} (hv : Val n L) (h6 : n ≤ 6) {k u : Nat} {left R : List Nat} (hlen : left.length = L.length) (hs : left.sum = k + 1) (hu : u < n) (hp : Par n L u left) (hg : goesF L (k + 1) u left = some R) : ∃ i l, R = i :: l ∧ i < L.length ∧ 0 < lf left i ∧ inc (st L i) u = true ∧ mayB L (other (st L i) u) (decL left i) = true ∧ goesF L k (other (st L i) u) (decL left i) = some l ∧ ∀ j, j < i → 0 < lf left j → inc (st L j) u = true → mayB L (other (st L j) u) (decL left j) = false := by
  obtain ⟨i, l, h1, rfl, h3, h4, h5, h6'⟩ := tryG_some hg
  have hs' : ∀ j, 0 < lf left j → (decL left j).sum = k := fun j hj => by have := sum_dec hj; omega
  refine ⟨i, l, rfl, h1, h3, h4, (may_iff hv h6 (other_lt (hv.get h1) h4) _).2 (walk_may (goesF_walk (hs' i h3) h5)), h5, fun j hj hjl hji => ?_⟩
  have hjL : j < L.length := by omega
  cases hm : mayB L (other (st L j) u) (decL left j) with
  | false => rfl
  | true =>
    have hm2 := (may_iff hv h6 (other_lt (hv.get hjL) hji) _).1 hm
    obtain ⟨w, hw⟩ := euler hv k _ _ (by rw [decL_length, hlen]) (hs' j hjl) (other_lt (hv.get hjL) hji) ((par_dec hv hjL hjl hji).2 hp) hm2
    obtain ⟨r, hr⟩ := walk_goesF (hs' j hjl) hw
    rw [h6' j hj hjl hji] at hr; cases hr
/-! ### the round of streets that are enough -/
end R2
