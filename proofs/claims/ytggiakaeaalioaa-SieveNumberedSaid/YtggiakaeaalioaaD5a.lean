/-
  Contracts of the program of chapter 05: what is known of spans. Conditions: none.
  Contracts of the program of chapter 05: the best trees. Conditions: none.
  Contracts of the program of chapter 05: the first of the best trees. Conditions: none.
-/
import Derived.Test.YtggiakaeaalioaaA5
import Derived.Test.YtggiakaeaalioaaP5f
import Derived.Test.YtggiakaeaalioaaVTab
set_option linter.unusedVariables false
set_option linter.unusedSimpArgs false
set_option linter.deprecated false
namespace Go.V
open Go.Proofs
set_option maxRecDepth 10000
set_option maxHeartbeats 2000000

/-- what is known of a span, as cells -/
def spP (s : R5.Sp) : List PV := [intP s.sum, intP s.least, intP s.many, intP s.first, intP s.last]
theorem spP_length (s : R5.Sp) : (spP s).length = 5 := rfl
abbrev spT (f : Nat → Nat → R5.Sp) : List PV := cellsT fun x y => spP (f x y)
structure LoadsOK' (L : List Int) : Prop where
  hi : L.length ≤ 8
  ld : R5.Loads L
/-- the spans with fewer kinds are known -/
def KnownB (L : List Int) (a b : Nat) (cs : List PV) : Prop := ∃ f, cs = spT f ∧ ∀ x y, x ≤ y → y < L.length → y - x < b - a → f x y = R5.spanOf L x y
theorem sumOf_split (L : List Int) {a b : Nat} (h : a < b) : R5.sumOf L a 1 + R5.sumOf L (a + 1) (b - (a + 1) + 1) = R5.sumOf L a (b - a + 1) := by
  rw [← R5.sumOf_add]; congr 1; omega

theorem known1_spec (a : Nat) (b : Nat) (L : List Int) (cs : List PV) (hpre : LoadsOK' L ∧ a ≤ b ∧ b < L.length ∧ KnownB L a b cs) : Ret Try.prog 91 [natP a, natP b, .ref [ints L] 0, .ref cs 0] (.agg (spP (R5.spanOf L a b))) := by
  refine fn_of (T := []) (N := 90) (RO := []) (CH := [7, 9, 10, 1000009, 1000010, 2000009, 2000010]) (KS := [0, 1, 2, 3, 6, 7, 8, 9, 10, 11, 14, 38, 68, 77]) (NS := [6, 7]) (fun args w => Try.call91 args w) Try.func91 rfl rfl (by simp) mixed (by kernel_rfl) trivial ?_
  simp only [go_sem, ↓reduceIte, Nat.reduceLT, Nat.reduceLeDiff, Nat.reduceEqDiff, Nat.reduceAdd, Nat.reduceSub, Nat.reduceDiv, Nat.reduceMod, Nat.reduceMul, Nat.reduceBEq, Nat.reduceBNe, reduceCtorEq, Int.reduceLT, Int.reduceLE, Int.reduceEq, Int.reduceNe, Int.reduceBEq, Int.reduceBNe, Int.reduceAdd, Int.reduceSub, Int.reduceNeg, Int.reduceToNat]
  obtain ⟨hL, hab, hb, f, rfl, hf⟩ := hpre
  have h8 := hL.hi
  have hl : (spT f).length = 320 := cellsT_length fun x y => spP_length _
  by_cases h : a = b
  · subst h
    obtain ⟨x, hx⟩ := get_some hb
    have e : R5.spanOf L a a = ⟨x, 0, 1, 0, 0⟩ := by unfold R5.spanOf; rw [if_pos rfl, List.getD_eq_getElem?_getD, hx]; rfl
    simp only [go_sem, ↓reduceIte, Nat.reduceLT, Nat.reduceLeDiff, Nat.reduceEqDiff, Nat.reduceAdd, Nat.reduceSub, Nat.reduceDiv, Nat.reduceMod, Nat.reduceMul, Nat.reduceBEq, Nat.reduceBNe, reduceCtorEq, Int.reduceLT, Int.reduceLE, Int.reduceEq, Int.reduceNe, Int.reduceBEq, Int.reduceBNe, Int.reduceAdd, Int.reduceSub, Int.reduceNeg, Int.reduceToNat, beq_self_eq_true, hb, lof_getD hx]
    rw [e]
    exact ex_le_refl rfl
  · have hne : ((a : Int) == b) = false := by rw [beq_eq_false_iff_ne]; omega
    obtain ⟨m, hm⟩ : ∃ m, b = a + m := ⟨b - a, by omega⟩
    have hm0 : 1 ≤ m := by omega
    have hfa : f a a = R5.spanOf L a a := hf a a (by omega) (by omega) (by omega)
    have hfb : f (a + 1) b = R5.spanOf L (a + 1) b := hf (a + 1) b (by omega) (by omega) (by omega)
    have g1 : (spT f).getD (a * 40 + a * 5) default = intP (f a a).sum := cellsT_get (k := 0) (fun x y => spP_length _) (by omega) (by omega) (by omega) (by omega)
    have g2 : (spT f).getD ((a + 1) * 40 + b * 5) default = intP (f (a + 1) b).sum := cellsT_get (k := 0) (fun x y => spP_length _) (by omega) (by omega) (by omega) (by omega)
    have ea : ((a : Int) + 1).toNat = a + 1 := by omega
    have hs : (f a a).sum + (f (a + 1) b).sum = R5.sumOf L a (m + 1) := by
      rw [hfa, hfb, R5.spanOf_sum L (Nat.le_refl _), R5.spanOf_sum L (by omega), Nat.sub_self, Nat.zero_add]
      have := sumOf_split L (a := a) (b := b) (by omega)
      rwa [show b - a + 1 = m + 1 by omega] at this
    have hsb := R5.sumOf_bd hL.ld a (m + 1)
    simp only [go_sem, ↓reduceIte, Nat.reduceLT, Nat.reduceLeDiff, Nat.reduceEqDiff, Nat.reduceAdd, Nat.reduceSub, Nat.reduceDiv, Nat.reduceMod, Nat.reduceMul, Nat.reduceBEq, Nat.reduceBNe, reduceCtorEq, Int.reduceLT, Int.reduceLE, Int.reduceEq, Int.reduceNe, Int.reduceBEq, Int.reduceBNe, Int.reduceAdd, Int.reduceSub, Int.reduceNeg, Int.reduceToNat, hne, ea, g1, g2, hl, hs]
    (repeat with_reducible refine And.intro (by (repeat' with_reducible refine And.intro ?_ ?_) <;> first | with_reducible assumption | omega | (simp only [InK_i64, InK_u64, InK_u8]; omega) | (unfold sz; omega) | exact True.intro) ?_)
    have eo : R5.spanOf L a b = R5.invSp L a (m + 1) m := by unfold R5.spanOf; rw [if_neg h, show b - a = m by omega]
    rw [eo]
    refine vfor [0,1,3,6,7,8] [6,7] [] m (fun _ => True) (fun i => ⟨[(0,.p (natP a)),(1,.p (natP b)),(3,.p (.ref (spT f) 0)),(6,.ptr 6 0),(7,.ptr 7 0),(8,.p (natP (a + i)))], [(6,.cells 68 [.p (intP 0), .p (intP 0), .p (intP 0), .p (intP 0), .p (intP 0)]),(7,.cells 68 ((spP (R5.invSp L a (m + 1) i)).map .p))]⟩) (by rw [R5.invSp_zero]; simp only [go_sem, ↓reduceIte, Nat.reduceLT, Nat.reduceLeDiff, Nat.reduceEqDiff, Nat.reduceAdd, Nat.reduceSub, Nat.reduceDiv, Nat.reduceMod, Nat.reduceMul, Nat.reduceBEq, Nat.reduceBNe, reduceCtorEq, Int.reduceLT, Int.reduceLE, Int.reduceEq, Int.reduceNe, Int.reduceBEq, Int.reduceBNe, Int.reduceAdd, Int.reduceSub, Int.reduceNeg, Int.reduceToNat, spP]; first | done | rfl) trivial ?_
    intro i hi _
    have hbd := R5.invSp_bd hL.ld a (n := m + 1) (i := i) (by omega) (by omega)
    by_cases hlt : i < m
    · have hfl : f a (a + i) = R5.spanOf L a (a + i) := hf _ _ (by omega) (by omega) (by omega)
      have hfr : f (a + i + 1) b = R5.spanOf L (a + i + 1) b := hf _ _ (by omega) (by omega) (by omega)
      have bl := R5.spanOf_bd hL.ld (a := a) (b := a + i) (by omega) (by omega)
      have br := R5.spanOf_bd hL.ld (a := a + i + 1) (b := b) (by omega) (by omega)
      have hq : (R5.spanOf L a (a + i)).least + (R5.spanOf L (a + i + 1) b).least + (R5.invSp L a (m + 1) i).sum = R5.topQ L a (m + 1) i := by
        rw [R5.spanOf_least L (by omega), R5.spanOf_least L (by omega)]
        unfold R5.topQ
        rw [show a + i - a + 1 = i + 1 by omega, show b - (a + i + 1) + 1 = m + 1 - 1 - i by omega]; rfl
      have hp : (R5.spanOf L a (a + i)).many * (R5.spanOf L (a + i + 1) b).many = (R5.partM L a (m + 1) i : Int) := by
        rw [R5.spanOf_many L (by omega), R5.spanOf_many L (by omega)]
        unfold R5.partM
        rw [show a + i - a + 1 = i + 1 by omega, show b - (a + i + 1) + 1 = m + 1 - 1 - i by omega]
        push_cast; rfl
      have hpb : (R5.spanOf L a (a + i)).many * (R5.spanOf L (a + i + 1) b).many ≤ 429 * 429 := Int.mul_le_mul bl.2.2.2.2.2 br.2.2.2.2.2 (by omega) (by omega)
      have hpb0 : 0 ≤ (R5.spanOf L a (a + i)).many * (R5.spanOf L (a + i + 1) b).many := Int.mul_nonneg (by omega) (by omega)
      have g3 : ((spT f).drop (a * 40 + (a + i) * 5)).take 5 = spP (R5.spanOf L a (a + i)) := by rw [← hfl]; exact cellsT_take (fun x y => spP_length _) (by omega) (by omega) (by omega)
      have g4 : ((spT f).drop ((a + i + 1) * 40 + b * 5)).take 5 = spP (R5.spanOf L (a + i + 1) b) := by rw [← hfr]; exact cellsT_take (fun x y => spP_length _) (by omega) (by omega) (by omega)
      have ei : ((a + i : Nat) : Int) + 1 = ((a + i + 1 : Nat) : Int) := by push_cast; rfl
      have hlt' : ((a + i : Nat) : Int) < (b : Int) := by omega
      have hsuc := R5.invSp_succ L a (m + 1) i
      have hm0 := R5.invSp_many0 L a (m + 1) i (by omega)
      have ea2 : a + (i + 1) = a + i + 1 := by omega
      generalize R5.spanOf L a (a + i) = sl at *
      generalize R5.spanOf L (a + i + 1) b = sr at *
      generalize R5.topQ L a (m + 1) i = q at *
      generalize (R5.partM L a (m + 1) i : Int) = pm at *
      generalize R5.invSp L a (m + 1) i = sp at *
      obtain ⟨s1, s2, s3, s4, s5⟩ := sp
      obtain ⟨l1, l2, l3, l4, l5⟩ := sl
      obtain ⟨r1, r2, r3, r4, r5⟩ := sr
      dsimp only at *
      by_cases hi0 : i = 0
      · have : (s3 == 0) = true := by rw [hm0]; simp [hi0]
        simp only [go_sem, ↓reduceIte, Nat.reduceLT, Nat.reduceLeDiff, Nat.reduceEqDiff, Nat.reduceAdd, Nat.reduceSub, Nat.reduceDiv, Nat.reduceMod, Nat.reduceMul, Nat.reduceBEq, Nat.reduceBNe, reduceCtorEq, Int.reduceLT, Int.reduceLE, Int.reduceEq, Int.reduceNe, Int.reduceBEq, Int.reduceBNe, Int.reduceAdd, Int.reduceSub, Int.reduceNeg, Int.reduceToNat, false_and, Int.zero_add, hlt', ei, ea2, g3, g4, hl, spP, hq, hp, this, beq_self_eq_true]
        rw [hsuc, if_pos (.inl hi0)]
        simp only [go_sem, ↓reduceIte, Nat.reduceLT, Nat.reduceLeDiff, Nat.reduceEqDiff, Nat.reduceAdd, Nat.reduceSub, Nat.reduceDiv, Nat.reduceMod, Nat.reduceMul, Nat.reduceBEq, Nat.reduceBNe, reduceCtorEq, Int.reduceLT, Int.reduceLE, Int.reduceEq, Int.reduceNe, Int.reduceBEq, Int.reduceBNe, Int.reduceAdd, Int.reduceSub, Int.reduceNeg, Int.reduceToNat, spP]
        (repeat' (first | (rw [InK_i64]; omega) | (rw [InK_u8]; omega) | (rw [InK_u64]; omega) | omega | rfl | apply And.intro))
      · have : (s3 == 0) = false := by rw [hm0]; simp [hi0]
        by_cases hq1 : q < s2
        · simp only [go_sem, ↓reduceIte, Nat.reduceLT, Nat.reduceLeDiff, Nat.reduceEqDiff, Nat.reduceAdd, Nat.reduceSub, Nat.reduceDiv, Nat.reduceMod, Nat.reduceMul, Nat.reduceBEq, Nat.reduceBNe, reduceCtorEq, Int.reduceLT, Int.reduceLE, Int.reduceEq, Int.reduceNe, Int.reduceBEq, Int.reduceBNe, Int.reduceAdd, Int.reduceSub, Int.reduceNeg, Int.reduceToNat, false_and, Int.zero_add, hlt', ei, ea2, g3, g4, hl, spP, hq, hp, this, hq1, beq_self_eq_true]
          rw [hsuc, if_pos (.inr hq1)]
          simp only [go_sem, ↓reduceIte, Nat.reduceLT, Nat.reduceLeDiff, Nat.reduceEqDiff, Nat.reduceAdd, Nat.reduceSub, Nat.reduceDiv, Nat.reduceMod, Nat.reduceMul, Nat.reduceBEq, Nat.reduceBNe, reduceCtorEq, Int.reduceLT, Int.reduceLE, Int.reduceEq, Int.reduceNe, Int.reduceBEq, Int.reduceBNe, Int.reduceAdd, Int.reduceSub, Int.reduceNeg, Int.reduceToNat, spP]
          (repeat' (first | (rw [InK_i64]; omega) | (rw [InK_u8]; omega) | (rw [InK_u64]; omega) | omega | rfl | apply And.intro))
        · rw [if_neg (fun h => h.elim hi0 hq1)] at hsuc
          by_cases hq2 : q = s2
          · rw [if_pos hq2] at hsuc
            subst hq2
            simp only [go_sem, ↓reduceIte, Nat.reduceLT, Nat.reduceLeDiff, Nat.reduceEqDiff, Nat.reduceAdd, Nat.reduceSub, Nat.reduceDiv, Nat.reduceMod, Nat.reduceMul, Nat.reduceBEq, Nat.reduceBNe, reduceCtorEq, Int.reduceLT, Int.reduceLE, Int.reduceEq, Int.reduceNe, Int.reduceBEq, Int.reduceBNe, Int.reduceAdd, Int.reduceSub, Int.reduceNeg, Int.reduceToNat, false_and, Int.zero_add, hlt', ei, ea2, g3, g4, hl, spP, hq, hp, this, hq1, beq_self_eq_true]
            rw [hsuc]
            simp only [go_sem, ↓reduceIte, Nat.reduceLT, Nat.reduceLeDiff, Nat.reduceEqDiff, Nat.reduceAdd, Nat.reduceSub, Nat.reduceDiv, Nat.reduceMod, Nat.reduceMul, Nat.reduceBEq, Nat.reduceBNe, reduceCtorEq, Int.reduceLT, Int.reduceLE, Int.reduceEq, Int.reduceNe, Int.reduceBEq, Int.reduceBNe, Int.reduceAdd, Int.reduceSub, Int.reduceNeg, Int.reduceToNat, spP]
            (repeat' (first | (rw [InK_i64]; omega) | (rw [InK_u8]; omega) | (rw [InK_u64]; omega) | omega | rfl | apply And.intro))
          · have hq3 : (q == s2) = false := by rw [beq_eq_false_iff_ne]; exact hq2
            rw [if_neg hq2] at hsuc
            simp only [go_sem, ↓reduceIte, Nat.reduceLT, Nat.reduceLeDiff, Nat.reduceEqDiff, Nat.reduceAdd, Nat.reduceSub, Nat.reduceDiv, Nat.reduceMod, Nat.reduceMul, Nat.reduceBEq, Nat.reduceBNe, reduceCtorEq, Int.reduceLT, Int.reduceLE, Int.reduceEq, Int.reduceNe, Int.reduceBEq, Int.reduceBNe, Int.reduceAdd, Int.reduceSub, Int.reduceNeg, Int.reduceToNat, false_and, Int.zero_add, hlt', ei, ea2, g3, g4, hl, spP, hq, hp, this, hq1, hq3]
            rw [hsuc]
            simp only [go_sem, ↓reduceIte, Nat.reduceLT, Nat.reduceLeDiff, Nat.reduceEqDiff, Nat.reduceAdd, Nat.reduceSub, Nat.reduceDiv, Nat.reduceMod, Nat.reduceMul, Nat.reduceBEq, Nat.reduceBNe, reduceCtorEq, Int.reduceLT, Int.reduceLE, Int.reduceEq, Int.reduceNe, Int.reduceBEq, Int.reduceBNe, Int.reduceAdd, Int.reduceSub, Int.reduceNeg, Int.reduceToNat, spP]
            (repeat' (first | (rw [InK_i64]; omega) | (rw [InK_u8]; omega) | (rw [InK_u64]; omega) | omega | rfl | apply And.intro))
    · have hlt' : ¬ ((a + i : Nat) : Int) < (b : Int) := by omega
      simp only [go_sem, ↓reduceIte, Nat.reduceLT, Nat.reduceLeDiff, Nat.reduceEqDiff, Nat.reduceAdd, Nat.reduceSub, Nat.reduceDiv, Nat.reduceMod, Nat.reduceMul, Nat.reduceBEq, Nat.reduceBNe, reduceCtorEq, Int.reduceLT, Int.reduceLE, Int.reduceEq, Int.reduceNe, Int.reduceBEq, Int.reduceBNe, Int.reduceAdd, Int.reduceSub, Int.reduceNeg, Int.reduceToNat, hlt', spP]
      obtain rfl : i = m := by omega
      exact ex_le_refl rfl
noncomputable def tab_known1 : Tab := tabOf (fun p : (Nat) × (Nat) × (List Int) × (List PV) => match p with | (a, b, L, cs) => [natP a, natP b, .ref [ints L] 0, .ref cs 0]) (fun p : (Nat) × (Nat) × (List Int) × (List PV) => match p with | (a, b, L, cs) => LoadsOK' L ∧ a ≤ b ∧ b < L.length ∧ KnownB L a b cs) (fun p : (Nat) × (Nat) × (List Int) × (List PV) => match p with | (a, b, L, cs) => .agg (spP (R5.spanOf L a b)))
theorem tab_known1_eq (a : Nat) (b : Nat) (L : List Int) (cs : List PV) : tab_known1 [natP a, natP b, .ref [ints L] 0, .ref cs 0] = some (LoadsOK' L ∧ a ≤ b ∧ b < L.length ∧ KnownB L a b cs, .p (.agg (spP (R5.spanOf L a b)))) := tabOf_eq (enc := fun p : (Nat) × (Nat) × (List Int) × (List PV) => match p with | (a, b, L, cs) => [natP a, natP b, .ref [ints L] 0, .ref cs 0]) (pre := fun p : (Nat) × (Nat) × (List Int) × (List PV) => match p with | (a, b, L, cs) => LoadsOK' L ∧ a ≤ b ∧ b < L.length ∧ KnownB L a b cs) (out := fun p : (Nat) × (Nat) × (List Int) × (List PV) => match p with | (a, b, L, cs) => .agg (spP (R5.spanOf L a b))) (by rintro ⟨a, b, L, cs⟩ ⟨a', b', L', cs'⟩ h; simp at h; first | (simp [h]; done) | omega | (simp [h]; omega)) (a, b, L, cs)
theorem tab_known1_ok : TabOK Try.prog 91 tab_known1 := tabOf_ok (by rintro ⟨a, b, L, cs⟩ h; exact known1_spec a b L cs h)
noncomputable abbrev ent_known1 : FuncId × List Nat × Tab := (91, [], tab_known1)
attribute [go_sem] tab_known1_eq

/-- the table while spans are filled: all with fewer than w kinds more, and of these the first c -/
def tabI (L : List Int) (w c : Nat) : Nat → Nat → R5.Sp := fun x y => if x ≤ y ∧ y < L.length ∧ (y - x < w ∨ (y - x = w ∧ x < c)) then R5.spanOf L x y else R5.Sp.zero
theorem tabI_known (L : List Int) (w c : Nat) : KnownB L c (c + w) (spT (tabI L w c)) := ⟨_, rfl, fun x y h1 h2 h3 => by unfold tabI; rw [if_pos ⟨h1, h2, .inl (by omega)⟩]⟩
theorem tabI_next (L : List Int) (w c : Nat) (h : c + w < L.length) : updT (tabI L w c) c (c + w) (R5.spanOf L c (c + w)) = tabI L w (c + 1) := by
  funext x y
  unfold updT tabI
  by_cases h1 : x = c ∧ y = c + w
  · obtain ⟨rfl, rfl⟩ := h1
    rw [if_pos ⟨rfl, rfl⟩, if_pos ⟨by omega, by omega, .inr ⟨by omega, by omega⟩⟩]
  · rw [if_neg h1]
    by_cases h2 : x ≤ y ∧ y < L.length ∧ (y - x < w ∨ (y - x = w ∧ x < c))
    · rw [if_pos h2, if_pos ⟨h2.1, h2.2.1, by omega⟩]
    · rw [if_neg h2, if_neg (fun h3 => h2 ⟨h3.1, h3.2.1, by omega⟩)]
theorem tabI_wide (L : List Int) (w : Nat) : tabI L w (L.length - w) = tabI L (w + 1) 0 := by
  funext x y
  unfold tabI
  by_cases h2 : x ≤ y ∧ y < L.length ∧ (y - x < w ∨ (y - x = w ∧ x < L.length - w))
  · rw [if_pos h2, if_pos ⟨h2.1, h2.2.1, by omega⟩]
  · rw [if_neg h2, if_neg (fun h3 => h2 ⟨h3.1, h3.2.1, by omega⟩)]
/-- the whole table -/
def tabW (L : List Int) : Nat → Nat → R5.Sp := fun x y => if x ≤ y ∧ y < L.length then R5.spanOf L x y else R5.Sp.zero
theorem tabI_last (L : List Int) : tabI L L.length 0 = tabW L := by
  funext x y
  unfold tabI tabW
  by_cases h2 : x ≤ y ∧ y < L.length
  · rw [if_pos h2, if_pos ⟨h2.1, h2.2, by omega⟩]
  · rw [if_neg h2, if_neg (fun h3 => h2 ⟨h3.1, h3.2.1⟩)]
theorem tabI_first (L : List Int) : tabI L 0 0 = fun _ _ => R5.Sp.zero := by
  funext x y
  unfold tabI
  rw [if_neg (by omega)]

theorem fill_spec (L : List Int) (hL : LoadsOK' L) : FnO Try.prog 90 [.ptr 5000000 0, .p (natP L.length), .clo 91 [.p (.ref [ints L] 0), .ptr 5000000 0]] [(5000000, .cells 100 ((spT fun _ _ => R5.Sp.zero).map .p))]
    (fun x H => x = .p (.tuple []) ∧ H = [(5000000, .cells 100 ((spT (tabW L)).map .p))]) := by
  refine fnO_of (T := [ent_known1]) [5000000] [] (N := 34) (RO := []) (CH := [28, 4018003, 4019005, 4020012, 4021013, 4022017, 4023033, 4029004, 4030011, 4031032]) (KS := [0, 1, 2, 6, 7, 8, 9, 10, 14, 15, 16]) (NS := [5000000]) (fun args w => Try.call90 args w) Try.func90 rfl rfl (by simp) mixed (by kernel_rfl) ⟨tab_known1_ok, trivial⟩ ?_
  have h8 := hL.hi
  simp only [go_sem, ↓reduceIte, Nat.reduceLT, Nat.reduceLeDiff, Nat.reduceEqDiff, Nat.reduceAdd, Nat.reduceSub, Nat.reduceDiv, Nat.reduceMod, Nat.reduceMul, Nat.reduceBEq, Nat.reduceBNe, reduceCtorEq, Int.reduceLT, Int.reduceLE, Int.reduceEq, Int.reduceNe, Int.reduceBEq, Int.reduceBNe, Int.reduceAdd, Int.reduceSub, Int.reduceNeg, Int.reduceToNat]
  refine vfor [0,1,2,8,9] [5000000] [] L.length (fun _ => True) (fun w => ⟨[(0,.ptr 5000000 0),(1,.p (natP L.length)),(2,.clo 91 [.p (.ref [ints L] 0), .ptr 5000000 0]),(8,.p (natP L.length)),(9,.p (natP w))], [(5000000,.cells 100 ((spT (tabI L w 0)).map .p))]⟩) (by rw [tabI_first]; simp only [go_sem, ↓reduceIte, Nat.reduceLT, Nat.reduceLeDiff, Nat.reduceEqDiff, Nat.reduceAdd, Nat.reduceSub, Nat.reduceDiv, Nat.reduceMod, Nat.reduceMul, Nat.reduceBEq, Nat.reduceBNe, reduceCtorEq, Int.reduceLT, Int.reduceLE, Int.reduceEq, Int.reduceNe, Int.reduceBEq, Int.reduceBNe, Int.reduceAdd, Int.reduceSub, Int.reduceNeg, Int.reduceToNat]; first | done | rfl) trivial ?_
  intro w hw _
  by_cases hlt : w < L.length
  · simp only [go_sem, ↓reduceIte, Nat.reduceLT, Nat.reduceLeDiff, Nat.reduceEqDiff, Nat.reduceAdd, Nat.reduceSub, Nat.reduceDiv, Nat.reduceMod, Nat.reduceMul, Nat.reduceBEq, Nat.reduceBNe, reduceCtorEq, Int.reduceLT, Int.reduceLE, Int.reduceEq, Int.reduceNe, Int.reduceBEq, Int.reduceBNe, Int.reduceAdd, Int.reduceSub, Int.reduceNeg, Int.reduceToNat, hlt]
    (repeat with_reducible refine And.intro (by (repeat' with_reducible refine And.intro ?_ ?_) <;> first | with_reducible assumption | omega | (simp only [InK_i64, InK_u64, InK_u8]; omega) | (unfold sz; omega) | exact True.intro) ?_)
    have ew : (L.length : Int) - w = ((L.length - w : Nat) : Int) := by omega
    rw [ew]
    refine vfor [0,1,2,6,8,9,14,15] [5000000] [] (L.length - w) (fun _ => True) (fun c => ⟨[(0,.ptr 5000000 0),(1,.p (natP L.length)),(2,.clo 91 [.p (.ref [ints L] 0), .ptr 5000000 0]),(6,.p (natP w)),(8,.p (natP L.length)),(9,.p (natP w)),(14,.p (natP (L.length - w))),(15,.p (natP c))], [(5000000,.cells 100 ((spT (tabI L w c)).map .p))]⟩) (by first | rfl | (simp only [go_sem, ↓reduceIte, Nat.reduceLT, Nat.reduceLeDiff, Nat.reduceEqDiff, Nat.reduceAdd, Nat.reduceSub, Nat.reduceDiv, Nat.reduceMod, Nat.reduceMul, Nat.reduceBEq, Nat.reduceBNe, reduceCtorEq, Int.reduceLT, Int.reduceLE, Int.reduceEq, Int.reduceNe, Int.reduceBEq, Int.reduceBNe, Int.reduceAdd, Int.reduceSub, Int.reduceNeg, Int.reduceToNat]; first | done | rfl)) trivial ?_
    intro c hc _
    by_cases hlc : c < L.length - w
    · have ec : ((c : Int) + (w : Int)) = ((c + w : Nat) : Int) := by push_cast; rfl
      have hl : (spT (tabI L w c)).length = 320 := cellsT_length fun x y => spP_length _
      have hK := tabI_known L w c
      have ho : c * 40 + (c + w) * 5 ≤ 315 := by omega
      have hset := cellsT_setA (c := spP) spP_length (f := tabI L w c) (x := c) (y := c + w) (o := c * 40 + (c + w) * 5) (by omega) (by omega) (by omega) (R5.spanOf L c (c + w))
      rw [tabI_next L w c (by omega)] at hset
      simp only [go_sem, ↓reduceIte, Nat.reduceLT, Nat.reduceLeDiff, Nat.reduceEqDiff, Nat.reduceAdd, Nat.reduceSub, Nat.reduceDiv, Nat.reduceMod, Nat.reduceMul, Nat.reduceBEq, Nat.reduceBNe, reduceCtorEq, Int.reduceLT, Int.reduceLE, Int.reduceEq, Int.reduceNe, Int.reduceBEq, Int.reduceBNe, Int.reduceAdd, Int.reduceSub, Int.reduceNeg, Int.reduceToNat, false_and, hlc, ec, pvs_map, List.length_map, hl, spP, ho]
      refine ⟨by rw [InK_i64]; omega, by omega, by omega, by rw [InK_i64]; omega, ⟨hL, by omega, by omega, hK⟩, by rw [InK_i64]; omega, ?_⟩
      rw [← hset]
      rfl
    · simp only [go_sem, ↓reduceIte, Nat.reduceLT, Nat.reduceLeDiff, Nat.reduceEqDiff, Nat.reduceAdd, Nat.reduceSub, Nat.reduceDiv, Nat.reduceMod, Nat.reduceMul, Nat.reduceBEq, Nat.reduceBNe, reduceCtorEq, Int.reduceLT, Int.reduceLE, Int.reduceEq, Int.reduceNe, Int.reduceBEq, Int.reduceBNe, Int.reduceAdd, Int.reduceSub, Int.reduceNeg, Int.reduceToNat, hlc]
      obtain rfl : c = L.length - w := by omega
      rw [tabI_wide]
      (repeat' (first | (rw [InK_i64]; omega) | (rw [InK_u8]; omega) | (rw [InK_u64]; omega) | omega | rfl | apply And.intro))
  · simp only [go_sem, ↓reduceIte, Nat.reduceLT, Nat.reduceLeDiff, Nat.reduceEqDiff, Nat.reduceAdd, Nat.reduceSub, Nat.reduceDiv, Nat.reduceMod, Nat.reduceMul, Nat.reduceBEq, Nat.reduceBNe, reduceCtorEq, Int.reduceLT, Int.reduceLE, Int.reduceEq, Int.reduceNe, Int.reduceBEq, Int.reduceBNe, Int.reduceAdd, Int.reduceSub, Int.reduceNeg, Int.reduceToNat, hlt]
    obtain rfl : w = L.length := by omega
    rw [tabI_last]
    exact ⟨_, Le.refl _, rfl, rfl⟩
end Go.V

namespace Go.V
open Go.Proofs
set_option maxRecDepth 10000
set_option maxHeartbeats 2000000

theorem zero_cells (n : Nat) (hn : n = 320) : (List.replicate n (Value.int .i64 0)).map (fun v => AV.p (.val v)) = (spT fun _ _ => R5.Sp.zero).map .p := by subst hn; rfl
theorem zero_one (n : Nat) : (List.replicate n (Value.int .i64 0)).all (·.oneCell') = true := by
  rw [List.all_eq_true]; intro x hx; obtain ⟨_, rfl⟩ := List.mem_replicate.1 hx; rfl

theorem known_spec (L : List Int) (hpre : LoadsOK' L) : Ret Try.prog 63 [ints L] (.ref (spT (tabW L)) 0) := by
  refine fn_of (T := []) (N := 8) (RO := [1]) (CH := []) (KS := [0, 1, 2, 3]) (NS := [2, 3]) (fun args w => Try.call63 args w) Try.func63 rfl rfl (by simp) mixed (by kernel_rfl) trivial ?_
  simp only [go_sem, ↓reduceIte, Nat.reduceLT, Nat.reduceLeDiff, Nat.reduceEqDiff, Nat.reduceAdd, Nat.reduceSub, Nat.reduceDiv, Nat.reduceMod, Nat.reduceMul, Nat.reduceBEq, Nat.reduceBNe, reduceCtorEq, Int.reduceLT, Int.reduceLE, Int.reduceEq, Int.reduceNe, Int.reduceBEq, Int.reduceBNe, Int.reduceAdd, Int.reduceSub, Int.reduceNeg, Int.reduceToNat, zero_one, zero_cells]
  refine vcallO [3] 10000 (fill_spec L hpre) (by first | rfl | (simp only [go_sem, seval, AV.mapN, AV.mapNL, Ob.mapN, mapNL_p, cnx, canH, canH.canH1, lowE, lowH, lowL, lowN, AV.allN, AV.allNL, Ob.allN, allNL_p, okNm, okKey, okH, bkp, bk, bkH, lof_snoc_int, List.getD_cons_zero, List.getD_cons_succ]; first | done | rfl) | (simp [AV.mapN, AV.mapNL, Ob.mapN, mapNL_p, cnx, canH, canH.canH1, St.h, lowE, lowH, lowL, lowN, AV.allN, AV.allNL, Ob.allN, allNL_p, okNm, okKey, okH, bkp, bk, bkH]; done)) (by first | rfl | (simp only [go_sem, seval, AV.mapN, AV.mapNL, Ob.mapN, mapNL_p, cnx, canH, canH.canH1, lowE, lowH, lowL, lowN, AV.allN, AV.allNL, Ob.allN, allNL_p, okNm, okKey, okH, bkp, bk, bkH, lof_snoc_int, List.getD_cons_zero, List.getD_cons_succ]; first | done | rfl) | (simp [AV.mapN, AV.mapNL, Ob.mapN, mapNL_p, cnx, canH, canH.canH1, St.h, lowE, lowH, lowL, lowN, AV.allN, AV.allNL, Ob.allN, allNL_p, okNm, okKey, okH, bkp, bk, bkH]; done)) (by omega) (by first | rfl | (simp only [go_sem, seval, AV.mapN, AV.mapNL, Ob.mapN, mapNL_p, cnx, canH, canH.canH1, lowE, lowH, lowL, lowN, AV.allN, AV.allNL, Ob.allN, allNL_p, okNm, okKey, okH, bkp, bk, bkH, lof_snoc_int, List.getD_cons_zero, List.getD_cons_succ]; first | done | rfl) | (simp [AV.mapN, AV.mapNL, Ob.mapN, mapNL_p, cnx, canH, canH.canH1, St.h, lowE, lowH, lowL, lowN, AV.allN, AV.allNL, Ob.allN, allNL_p, okNm, okKey, okH, bkp, bk, bkH]; done)) ?_
  rintro x H' ⟨rfl, rfl⟩
  refine ⟨(by first | rfl | (simp only [go_sem, seval, AV.mapN, AV.mapNL, Ob.mapN, mapNL_p, cnx, canH, canH.canH1, lowE, lowH, lowL, lowN, AV.allN, AV.allNL, Ob.allN, allNL_p, okNm, okKey, okH, bkp, bk, bkH, lof_snoc_int, List.getD_cons_zero, List.getD_cons_succ]; first | done | rfl) | (simp [AV.mapN, AV.mapNL, Ob.mapN, mapNL_p, cnx, canH, canH.canH1, St.h, lowE, lowH, lowL, lowN, AV.allN, AV.allNL, Ob.allN, allNL_p, okNm, okKey, okH, bkp, bk, bkH]; done)), ?_⟩
  simp only [go_sem, ↓reduceIte, Nat.reduceLT, Nat.reduceLeDiff, Nat.reduceEqDiff, Nat.reduceAdd, Nat.reduceSub, Nat.reduceDiv, Nat.reduceMod, Nat.reduceMul, Nat.reduceBEq, Nat.reduceBNe, reduceCtorEq, Int.reduceLT, Int.reduceLE, Int.reduceEq, Int.reduceNe, Int.reduceBEq, Int.reduceBNe, Int.reduceAdd, Int.reduceSub, Int.reduceNeg, Int.reduceToNat, St.back, AV.mapN, AV.mapNL, Ob.mapN, mapNL_p, bk, bkp, bkH, pvs_map]
  exact ex_le_refl rfl
noncomputable def tab_known : Tab := tabOf (fun p : (List Int) => match p with | L => [ints L]) (fun p : (List Int) => match p with | L => LoadsOK' L) (fun p : (List Int) => match p with | L => .ref (spT (tabW L)) 0)
theorem tab_known_eq (L : List Int) : tab_known [ints L] = some (LoadsOK' L, .p (.ref (spT (tabW L)) 0)) := tabOf_eq (enc := fun p : (List Int) => match p with | L => [ints L]) (pre := fun p : (List Int) => match p with | L => LoadsOK' L) (out := fun p : (List Int) => match p with | L => .ref (spT (tabW L)) 0) (by rintro L L' h; simp at h; first | (simp [h]; done) | omega | (simp [h]; omega)) (L)
theorem tab_known_ok : TabOK Try.prog 63 tab_known := tabOf_ok (by rintro L h; exact known_spec L h)
noncomputable abbrev ent_known : FuncId × List Nat × Tab := (63, [1], tab_known)
attribute [go_sem] tab_known_eq

/-- what is known of all kinds -/
def wholeV (L : List Int) : R5.Sp := if checkL L = 0 then R5.spanOf L 0 (L.length - 1) else R5.Sp.zero
theorem loads_ok' {L : List Int} (h : checkL L = 0) : LoadsOK' L := ⟨(loads_ok h).hi, (loads_ok h).ld⟩

theorem whole_spec (L : List Int) (hpre : sz L.length) : Ret Try.prog 66 [ints L] (.tuple [.agg (spP (wholeV L)), errP (checkL L)]) := by
  refine fn_of (T := [ent_check5, ent_known]) (N := 20) (RO := []) (CH := []) (KS := [0, 2, 3, 4, 8]) (NS := [2]) (fun args w => Try.call66 args w) Try.func66 rfl rfl (by simp) mixed (by kernel_rfl) ⟨tab_check5_ok, tab_known_ok, trivial⟩ ?_
  simp only [go_sem, ↓reduceIte, Nat.reduceLT, Nat.reduceLeDiff, Nat.reduceEqDiff, Nat.reduceAdd, Nat.reduceSub, Nat.reduceDiv, Nat.reduceMod, Nat.reduceMul, Nat.reduceBEq, Nat.reduceBNe, reduceCtorEq, Int.reduceLT, Int.reduceLE, Int.reduceEq, Int.reduceNe, Int.reduceBEq, Int.reduceBNe, Int.reduceAdd, Int.reduceSub, Int.reduceNeg, Int.reduceToNat]
  refine ⟨hpre, ?_⟩
  by_cases h : checkL L = 0
  · have hL := loads_ok h
    have h1 := hL.lo; have h8 := hL.hi
    have hw : tabW L 0 (L.length - 1) = wholeV L := by unfold tabW wholeV; rw [if_pos ⟨by omega, by omega⟩, if_pos h]
    have hl : (spT (tabW L)).length = 320 := cellsT_length fun x y => spP_length _
    have en : ((L.length : Int) - 1).toNat = L.length - 1 := by omega
    have g : ((spT (tabW L)).drop ((L.length - 1) * 5)).take 5 = spP (wholeV L) := by rw [← hw]; exact cellsT_take (fun x y => spP_length _) (by omega) (by omega) (by omega)
    simp only [go_sem, ↓reduceIte, Nat.reduceLT, Nat.reduceLeDiff, Nat.reduceEqDiff, Nat.reduceAdd, Nat.reduceSub, Nat.reduceDiv, Nat.reduceMod, Nat.reduceMul, Nat.reduceBEq, Nat.reduceBNe, reduceCtorEq, Int.reduceLT, Int.reduceLE, Int.reduceEq, Int.reduceNe, Int.reduceBEq, Int.reduceBNe, Int.reduceAdd, Int.reduceSub, Int.reduceNeg, Int.reduceToNat, h, bne_self_eq_false, hL, loads_ok' h, en, hl]
    (repeat with_reducible refine And.intro (by (repeat' with_reducible refine And.intro ?_ ?_) <;> first | with_reducible assumption | omega | (simp only [InK_i64, InK_u64, InK_u8]; omega) | (unfold sz; omega) | exact True.intro) ?_)
    rw [g]
    simp only [go_sem, ↓reduceIte, Nat.reduceLT, Nat.reduceLeDiff, Nat.reduceEqDiff, Nat.reduceAdd, Nat.reduceSub, Nat.reduceDiv, Nat.reduceMod, Nat.reduceMul, Nat.reduceBEq, Nat.reduceBNe, reduceCtorEq, Int.reduceLT, Int.reduceLE, Int.reduceEq, Int.reduceNe, Int.reduceBEq, Int.reduceBNe, Int.reduceAdd, Int.reduceSub, Int.reduceNeg, Int.reduceToNat, spP]
    (repeat with_reducible refine And.intro (by (repeat' with_reducible refine And.intro ?_ ?_) <;> first | with_reducible assumption | omega | (simp only [InK_i64, InK_u64, InK_u8]; omega) | (unfold sz; omega) | exact True.intro) ?_)
    exact ex_le_refl rfl
  · have hn : (checkL L != 0) = true := by simp [h]
    simp only [go_sem, ↓reduceIte, Nat.reduceLT, Nat.reduceLeDiff, Nat.reduceEqDiff, Nat.reduceAdd, Nat.reduceSub, Nat.reduceDiv, Nat.reduceMod, Nat.reduceMul, Nat.reduceBEq, Nat.reduceBNe, reduceCtorEq, Int.reduceLT, Int.reduceLE, Int.reduceEq, Int.reduceNe, Int.reduceBEq, Int.reduceBNe, Int.reduceAdd, Int.reduceSub, Int.reduceNeg, Int.reduceToNat, hn]
    unfold wholeV
    rw [if_neg h]
    exact ex_le_refl rfl
noncomputable def tab_whole : Tab := tabOf (fun p : (List Int) => match p with | L => [ints L]) (fun p : (List Int) => match p with | L => sz L.length) (fun p : (List Int) => match p with | L => .tuple [.agg (spP (wholeV L)), errP (checkL L)])
theorem tab_whole_eq (L : List Int) : tab_whole [ints L] = some (sz L.length, .p (.tuple [.agg (spP (wholeV L)), errP (checkL L)])) := tabOf_eq (enc := fun p : (List Int) => match p with | L => [ints L]) (pre := fun p : (List Int) => match p with | L => sz L.length) (out := fun p : (List Int) => match p with | L => .tuple [.agg (spP (wholeV L)), errP (checkL L)]) (by rintro L L' h; simp at h; first | (simp [h]; done) | omega | (simp [h]; omega)) (L)
theorem tab_whole_ok : TabOK Try.prog 66 tab_whole := tabOf_ok (by rintro L h; exact whole_spec L h)
noncomputable abbrev ent_whole : FuncId × List Nat × Tab := (66, [1], tab_whole)
attribute [go_sem] tab_whole_eq
theorem wholeV_least (L : List Int) : (wholeV L).least = leastV L := by
  unfold wholeV leastV
  split
  · rename_i h
    have := (loads_ok h).lo
    rw [R5.spanOf_least L (by omega), show L.length - 1 - 0 + 1 = L.length by omega]
  · rfl
theorem wholeV_many (L : List Int) : (wholeV L).many = countV L := by
  unfold wholeV countV
  split
  · rename_i h
    have := (loads_ok h).lo
    rw [R5.spanOf_many L (by omega), show L.length - 1 - 0 + 1 = L.length by omega]
  · rfl
theorem wholeV_first (L : List Int) : (wholeV L).first = firstV L := by
  unfold wholeV firstV topsE
  by_cases h : checkL L = 0
  · have := (loads_ok h).lo
    rw [if_pos h, if_pos h]
    by_cases h1 : L.length = 1
    · rw [if_pos h1, if_neg (by omega)]
      unfold R5.spanOf; rw [if_pos (by omega)]
    · rw [if_neg h1, if_pos rfl, R5.spanOf_first L (by omega), show L.length - 1 - 0 + 1 = L.length by omega, Nat.zero_add]
  · rw [if_neg h, if_neg h, if_neg h]; rfl
theorem wholeV_last (L : List Int) : (wholeV L).last = lastV L := by
  unfold wholeV lastV topsE
  by_cases h : checkL L = 0
  · have := (loads_ok h).lo
    rw [if_pos h, if_pos h]
    by_cases h1 : L.length = 1
    · rw [if_pos h1, if_neg (by omega)]
      unfold R5.spanOf; rw [if_pos (by omega)]
    · rw [if_neg h1, if_pos rfl, R5.spanOf_last L (by omega), show L.length - 1 - 0 + 1 = L.length by omega, Nat.zero_add]
  · rw [if_neg h, if_neg h, if_neg h]; rfl

theorem Least5_spec (L : List Int) (hpre : sz L.length) : Ret Try.prog 20 [ints L] (.tuple [intP (leastV L), errP (checkL L)]) := by
  refine fn_of (T := [ent_whole]) (N := 14) (RO := [4]) (CH := []) (KS := [0, 2, 3, 4, 5]) (NS := []) (fun args w => Try.call20 args w) Try.func20 rfl rfl (by simp) mixed (by kernel_rfl) ⟨tab_whole_ok, trivial⟩ ?_
  simp only [go_sem, ↓reduceIte, Nat.reduceLT, Nat.reduceLeDiff, Nat.reduceEqDiff, Nat.reduceAdd, Nat.reduceSub, Nat.reduceDiv, Nat.reduceMod, Nat.reduceMul, Nat.reduceBEq, Nat.reduceBNe, reduceCtorEq, Int.reduceLT, Int.reduceLE, Int.reduceEq, Int.reduceNe, Int.reduceBEq, Int.reduceBNe, Int.reduceAdd, Int.reduceSub, Int.reduceNeg, Int.reduceToNat]
  rw [← wholeV_least]
  simp only [go_sem, ↓reduceIte, Nat.reduceLT, Nat.reduceLeDiff, Nat.reduceEqDiff, Nat.reduceAdd, Nat.reduceSub, Nat.reduceDiv, Nat.reduceMod, Nat.reduceMul, Nat.reduceBEq, Nat.reduceBNe, reduceCtorEq, Int.reduceLT, Int.reduceLE, Int.reduceEq, Int.reduceNe, Int.reduceBEq, Int.reduceBNe, Int.reduceAdd, Int.reduceSub, Int.reduceNeg, Int.reduceToNat, spP]
  (repeat with_reducible refine And.intro (by (repeat' with_reducible refine And.intro ?_ ?_) <;> first | with_reducible assumption | omega | (simp only [InK_i64, InK_u64, InK_u8]; omega) | (unfold sz; omega) | exact True.intro) ?_)
  exact ex_le_refl rfl
noncomputable def tab_Least5 : Tab := tabOf (fun p : (List Int) => match p with | L => [ints L]) (fun p : (List Int) => match p with | L => sz L.length) (fun p : (List Int) => match p with | L => .tuple [intP (leastV L), errP (checkL L)])
theorem tab_Least5_eq (L : List Int) : tab_Least5 [ints L] = some (sz L.length, .p (.tuple [intP (leastV L), errP (checkL L)])) := tabOf_eq (enc := fun p : (List Int) => match p with | L => [ints L]) (pre := fun p : (List Int) => match p with | L => sz L.length) (out := fun p : (List Int) => match p with | L => .tuple [intP (leastV L), errP (checkL L)]) (by rintro L L' h; simp at h; first | (simp [h]; done) | omega | (simp [h]; omega)) (L)
theorem tab_Least5_ok : TabOK Try.prog 20 tab_Least5 := tabOf_ok (by rintro L h; exact Least5_spec L h)
noncomputable abbrev ent_Least5 : FuncId × List Nat × Tab := (20, [1], tab_Least5)
attribute [go_sem] tab_Least5_eq

theorem Count5_spec (L : List Int) (hpre : sz L.length) : Ret Try.prog 22 [ints L] (.tuple [intP (countV L), errP (checkL L)]) := by
  refine fn_of (T := [ent_whole]) (N := 14) (RO := [4]) (CH := []) (KS := [0, 2, 3, 4, 5]) (NS := []) (fun args w => Try.call22 args w) Try.func22 rfl rfl (by simp) mixed (by kernel_rfl) ⟨tab_whole_ok, trivial⟩ ?_
  simp only [go_sem, ↓reduceIte, Nat.reduceLT, Nat.reduceLeDiff, Nat.reduceEqDiff, Nat.reduceAdd, Nat.reduceSub, Nat.reduceDiv, Nat.reduceMod, Nat.reduceMul, Nat.reduceBEq, Nat.reduceBNe, reduceCtorEq, Int.reduceLT, Int.reduceLE, Int.reduceEq, Int.reduceNe, Int.reduceBEq, Int.reduceBNe, Int.reduceAdd, Int.reduceSub, Int.reduceNeg, Int.reduceToNat]
  rw [← wholeV_many]
  simp only [go_sem, ↓reduceIte, Nat.reduceLT, Nat.reduceLeDiff, Nat.reduceEqDiff, Nat.reduceAdd, Nat.reduceSub, Nat.reduceDiv, Nat.reduceMod, Nat.reduceMul, Nat.reduceBEq, Nat.reduceBNe, reduceCtorEq, Int.reduceLT, Int.reduceLE, Int.reduceEq, Int.reduceNe, Int.reduceBEq, Int.reduceBNe, Int.reduceAdd, Int.reduceSub, Int.reduceNeg, Int.reduceToNat, spP]
  (repeat with_reducible refine And.intro (by (repeat' with_reducible refine And.intro ?_ ?_) <;> first | with_reducible assumption | omega | (simp only [InK_i64, InK_u64, InK_u8]; omega) | (unfold sz; omega) | exact True.intro) ?_)
  exact ex_le_refl rfl
noncomputable def tab_Count5 : Tab := tabOf (fun p : (List Int) => match p with | L => [ints L]) (fun p : (List Int) => match p with | L => sz L.length) (fun p : (List Int) => match p with | L => .tuple [intP (countV L), errP (checkL L)])
theorem tab_Count5_eq (L : List Int) : tab_Count5 [ints L] = some (sz L.length, .p (.tuple [intP (countV L), errP (checkL L)])) := tabOf_eq (enc := fun p : (List Int) => match p with | L => [ints L]) (pre := fun p : (List Int) => match p with | L => sz L.length) (out := fun p : (List Int) => match p with | L => .tuple [intP (countV L), errP (checkL L)]) (by rintro L L' h; simp at h; first | (simp [h]; done) | omega | (simp [h]; omega)) (L)
theorem tab_Count5_ok : TabOK Try.prog 22 tab_Count5 := tabOf_ok (by rintro L h; exact Count5_spec L h)
noncomputable abbrev ent_Count5 : FuncId × List Nat × Tab := (22, [1], tab_Count5)
attribute [go_sem] tab_Count5_eq

theorem Tops5_spec (L : List Int) (hpre : sz L.length) : Ret Try.prog 27 [ints L] (.tuple [intP (firstV L), intP (lastV L), errP (topsE L)]) := by
  refine fn_of (T := [ent_whole]) (N := 23) (RO := [5]) (CH := [2, 3, 4]) (KS := [0, 2, 3, 4, 5, 17]) (NS := []) (fun args w => Try.call27 args w) Try.func27 rfl rfl (by simp) mixed (by kernel_rfl) ⟨tab_whole_ok, trivial⟩ ?_
  simp only [go_sem, ↓reduceIte, Nat.reduceLT, Nat.reduceLeDiff, Nat.reduceEqDiff, Nat.reduceAdd, Nat.reduceSub, Nat.reduceDiv, Nat.reduceMod, Nat.reduceMul, Nat.reduceBEq, Nat.reduceBNe, reduceCtorEq, Int.reduceLT, Int.reduceLE, Int.reduceEq, Int.reduceNe, Int.reduceBEq, Int.reduceBNe, Int.reduceAdd, Int.reduceSub, Int.reduceNeg, Int.reduceToNat]
  rw [← wholeV_first, ← wholeV_last]
  unfold topsE
  by_cases h : checkL L = 0
  · rw [if_pos h]
    by_cases h1 : L.length = 1
    · have e1 : ((L.length : Int) == 1) = true := by simp [h1]
      rw [if_pos h1]
      simp only [go_sem, ↓reduceIte, Nat.reduceLT, Nat.reduceLeDiff, Nat.reduceEqDiff, Nat.reduceAdd, Nat.reduceSub, Nat.reduceDiv, Nat.reduceMod, Nat.reduceMul, Nat.reduceBEq, Nat.reduceBNe, reduceCtorEq, Int.reduceLT, Int.reduceLE, Int.reduceEq, Int.reduceNe, Int.reduceBEq, Int.reduceBNe, Int.reduceAdd, Int.reduceSub, Int.reduceNeg, Int.reduceToNat, spP, h, e1, beq_self_eq_true]
      (repeat with_reducible refine And.intro (by (repeat' with_reducible refine And.intro ?_ ?_) <;> first | with_reducible assumption | omega | (simp only [InK_i64, InK_u64, InK_u8]; omega) | (unfold sz; omega) | exact True.intro) ?_)
      exact ex_le_refl rfl
    · have e1 : ((L.length : Int) == 1) = false := by rw [beq_eq_false_iff_ne]; omega
      rw [if_neg h1]
      simp only [go_sem, ↓reduceIte, Nat.reduceLT, Nat.reduceLeDiff, Nat.reduceEqDiff, Nat.reduceAdd, Nat.reduceSub, Nat.reduceDiv, Nat.reduceMod, Nat.reduceMul, Nat.reduceBEq, Nat.reduceBNe, reduceCtorEq, Int.reduceLT, Int.reduceLE, Int.reduceEq, Int.reduceNe, Int.reduceBEq, Int.reduceBNe, Int.reduceAdd, Int.reduceSub, Int.reduceNeg, Int.reduceToNat, spP, h, e1, beq_self_eq_true]
      (repeat with_reducible refine And.intro (by (repeat' with_reducible refine And.intro ?_ ?_) <;> first | with_reducible assumption | omega | (simp only [InK_i64, InK_u64, InK_u8]; omega) | (unfold sz; omega) | exact True.intro) ?_)
      exact ex_le_refl rfl
  · have hz : (checkL L == 0) = false := by simp [h]
    rw [if_neg h]
    simp only [go_sem, ↓reduceIte, Nat.reduceLT, Nat.reduceLeDiff, Nat.reduceEqDiff, Nat.reduceAdd, Nat.reduceSub, Nat.reduceDiv, Nat.reduceMod, Nat.reduceMul, Nat.reduceBEq, Nat.reduceBNe, reduceCtorEq, Int.reduceLT, Int.reduceLE, Int.reduceEq, Int.reduceNe, Int.reduceBEq, Int.reduceBNe, Int.reduceAdd, Int.reduceSub, Int.reduceNeg, Int.reduceToNat, spP, hz]
    (repeat with_reducible refine And.intro (by (repeat' with_reducible refine And.intro ?_ ?_) <;> first | with_reducible assumption | omega | (simp only [InK_i64, InK_u64, InK_u8]; omega) | (unfold sz; omega) | exact True.intro) ?_)
    exact ex_le_refl rfl
noncomputable def tab_Tops5 : Tab := tabOf (fun p : (List Int) => match p with | L => [ints L]) (fun p : (List Int) => match p with | L => sz L.length) (fun p : (List Int) => match p with | L => .tuple [intP (firstV L), intP (lastV L), errP (topsE L)])
theorem tab_Tops5_eq (L : List Int) : tab_Tops5 [ints L] = some (sz L.length, .p (.tuple [intP (firstV L), intP (lastV L), errP (topsE L)])) := tabOf_eq (enc := fun p : (List Int) => match p with | L => [ints L]) (pre := fun p : (List Int) => match p with | L => sz L.length) (out := fun p : (List Int) => match p with | L => .tuple [intP (firstV L), intP (lastV L), errP (topsE L)]) (by rintro L L' h; simp at h; first | (simp [h]; done) | omega | (simp [h]; omega)) (L)
theorem tab_Tops5_ok : TabOK Try.prog 27 tab_Tops5 := tabOf_ok (by rintro L h; exact Tops5_spec L h)
noncomputable abbrev ent_Tops5 : FuncId × List Nat × Tab := (27, [1], tab_Tops5)
attribute [go_sem] tab_Tops5_eq
end Go.V

namespace Go.V
open Go.Proofs
set_option maxRecDepth 10000
set_option maxHeartbeats 2000000

@[go_sem] theorem oneCell_ptr0 : (Value.pointer none).oneCell' = true := rfl
@[go_sem] theorem oneCell_fn0 : (Value.nilFunc).oneCell' = true := rfl

abbrev cloB (L : List Int) (n1 n2 : Nat) : AV := .clo 64 [.p (.ref [.ref (spT (tabW L)) 0] 0), .ptr n1 0, .ptr n2 0]
abbrev HB (L X : List Int) (m : Nat) : List (Nat × Ob) := [(5000000, .cells 22 [.sl m]), (5000001, .cells 66 [cloB L 5000000 5000001]), (m, .vec 3 1 (lof intP X))]
theorem putB_spec (L : List Int) (hL : LoadsOK L) : ∀ n, 1 ≤ n → ∀ a X, a + n ≤ L.length → X.length + n ≤ 1000 →
    FnO Try.prog 64 [.p (natP a), .p (natP (a + n - 1)), .p (.ref [.ref (spT (tabW L)) 0] 0), .ptr 5000000 0, .ptr 5000001 0] (HB L X 5000002)
      (fun x H => x = .p (.tuple []) ∧ H = HB L (X ++ (R5.bestT L a n).enc a) 22) := by
  intro n
  induction n using Nat.strongRecOn with
  | _ n ih =>
  intro h1 a X ha hX
  have h8 := hL.hi
  by_cases hn : n = 1
  · subst hn
    refine fnO_of (T := []) [5000000, 5000001, 5000002] [.ren 5000002 22] (N := 32) (RO := [21]) (CH := []) (KS := [0, 1, 2, 3, 4, 7, 10]) (NS := [22, 5000000, 5000001, 5000002]) (fun args w => Try.call64 args w) Try.func64 rfl rfl (by simp) mixed (by kernel_rfl) trivial ?_
    have e : ¬ ((a : Int) < ((a + 1 - 1 : Nat) : Int)) := by omega
    rw [R5.bestT_one]
    simp only [go_sem, ↓reduceIte, Nat.reduceLT, Nat.reduceLeDiff, Nat.reduceEqDiff, Nat.reduceAdd, Nat.reduceSub, Nat.reduceDiv, Nat.reduceMod, Nat.reduceMul, Nat.reduceBEq, Nat.reduceBNe, reduceCtorEq, Int.reduceLT, Int.reduceLE, Int.reduceEq, Int.reduceNe, Int.reduceBEq, Int.reduceBNe, Int.reduceAdd, Int.reduceSub, Int.reduceNeg, Int.reduceToNat, e]
    exact ⟨_, Le.refl _, rfl, by rw [show R5.T.leaf.enc a = [] from rfl, List.append_nil]⟩
  · refine fnO_of (T := []) [5000000, 5000001, 30022] [.ren 30022 22] (N := 32) (RO := [21]) (CH := []) (KS := [0, 1, 2, 3, 4, 7, 10]) (NS := [22, 10022, 30022, 5000000, 5000001, 5000002]) (fun args w => Try.call64 args w) Try.func64 rfl rfl (by simp) mixed (by kernel_rfl) trivial ?_
    have e : ((a : Int) < ((a + n - 1 : Nat) : Int)) := by omega
    have hf := R5.firstT_lt (L := L) (a := a) (n := n) (by omega)
    have hl : (spT (tabW L)).length = 320 := cellsT_length fun x y => spP_length _
    have ht : (tabW L a (a + n - 1)).first = ((a + R5.firstT L a n : Nat) : Int) := by
      unfold tabW
      rw [if_pos ⟨by omega, by omega⟩, R5.spanOf_first L (by omega), show a + n - 1 - a + 1 = n by omega]
    have g : (spT (tabW L)).getD (a * 40 + (a + n - 1) * 5 + 3) default = natP (a + R5.firstT L a n) := by
      rw [cellsT_get (k := 3) (x := a) (y := a + n - 1) (fun x y => spP_length _) (by omega) (by omega) (by omega) (by omega), natP, ← ht]; rfl
    rw [R5.bestT_enc L a (by omega)]
    have i1 := ih (R5.firstT L a n + 1) (by omega) (by omega) a (X ++ [((a + R5.firstT L a n : Nat) : Int)]) (by omega) (by simp; omega)
    have i2 := ih (n - 1 - R5.firstT L a n) (by omega) (by omega) (a + (R5.firstT L a n + 1)) (X ++ [((a + R5.firstT L a n : Nat) : Int)] ++ (R5.bestT L a (R5.firstT L a n + 1)).enc a) (by omega) (by simp [R5.T.enc_length, R5.bests_kinds (by omega) (R5.bestT_mem L a (n := R5.firstT L a n + 1) (by omega))]; omega)
    rw [show a + (R5.firstT L a n + 1) - 1 = a + R5.firstT L a n by omega] at i1
    rw [show a + (R5.firstT L a n + 1) + (n - 1 - R5.firstT L a n) - 1 = a + n - 1 by omega] at i2
    generalize (R5.bestT L a (R5.firstT L a n + 1)).enc a = el at *
    generalize (R5.bestT L (a + (R5.firstT L a n + 1)) (n - 1 - R5.firstT L a n)).enc (a + (R5.firstT L a n + 1)) = er at *
    generalize R5.firstT L a n = f at *
    have ec : ((a + f : Nat) : Int) + 1 = ((a + (f + 1) : Nat) : Int) := by push_cast; omega
    simp only [go_sem, ↓reduceIte, Nat.reduceLT, Nat.reduceLeDiff, Nat.reduceEqDiff, Nat.reduceAdd, Nat.reduceSub, Nat.reduceDiv, Nat.reduceMod, Nat.reduceMul, Nat.reduceBEq, Nat.reduceBNe, reduceCtorEq, Int.reduceLT, Int.reduceLE, Int.reduceEq, Int.reduceNe, Int.reduceBEq, Int.reduceBNe, Int.reduceAdd, Int.reduceSub, Int.reduceNeg, Int.reduceToNat, e, hl, g]
    (repeat with_reducible refine And.intro (by (repeat' with_reducible refine And.intro ?_ ?_) <;> first | with_reducible assumption | omega | (simp only [InK_i64, InK_u64, InK_u8]; omega) | (unfold sz; omega) | exact True.intro) ?_)
    refine vcallO [5000000, 5000001, 22] 10000 i1 (by first | rfl | (simp only [go_sem, seval, AV.mapN, AV.mapNL, Ob.mapN, mapNL_p, cnx, canH, canH.canH1, lowE, lowH, lowL, lowN, AV.allN, AV.allNL, Ob.allN, allNL_p, okNm, okKey, okH, bkp, bk, bkH, lof_snoc_int, List.getD_cons_zero, List.getD_cons_succ]; first | done | rfl) | (simp [AV.mapN, AV.mapNL, Ob.mapN, mapNL_p, cnx, canH, canH.canH1, St.h, lowE, lowH, lowL, lowN, AV.allN, AV.allNL, Ob.allN, allNL_p, okNm, okKey, okH, bkp, bk, bkH]; done)) (by first | rfl | (simp only [go_sem, seval, AV.mapN, AV.mapNL, Ob.mapN, mapNL_p, cnx, canH, canH.canH1, lowE, lowH, lowL, lowN, AV.allN, AV.allNL, Ob.allN, allNL_p, okNm, okKey, okH, bkp, bk, bkH, lof_snoc_int, List.getD_cons_zero, List.getD_cons_succ]; first | done | rfl) | (simp [AV.mapN, AV.mapNL, Ob.mapN, mapNL_p, cnx, canH, canH.canH1, St.h, lowE, lowH, lowL, lowN, AV.allN, AV.allNL, Ob.allN, allNL_p, okNm, okKey, okH, bkp, bk, bkH]; done)) (by omega) (by first | rfl | (simp only [go_sem, seval, AV.mapN, AV.mapNL, Ob.mapN, mapNL_p, cnx, canH, canH.canH1, lowE, lowH, lowL, lowN, AV.allN, AV.allNL, Ob.allN, allNL_p, okNm, okKey, okH, bkp, bk, bkH, lof_snoc_int, List.getD_cons_zero, List.getD_cons_succ]; first | done | rfl) | (simp [AV.mapN, AV.mapNL, Ob.mapN, mapNL_p, cnx, canH, canH.canH1, St.h, lowE, lowH, lowL, lowN, AV.allN, AV.allNL, Ob.allN, allNL_p, okNm, okKey, okH, bkp, bk, bkH]; done)) ?_
    rintro x H' ⟨rfl, rfl⟩
    refine ⟨(by first | rfl | (simp only [go_sem, seval, AV.mapN, AV.mapNL, Ob.mapN, mapNL_p, cnx, canH, canH.canH1, lowE, lowH, lowL, lowN, AV.allN, AV.allNL, Ob.allN, allNL_p, okNm, okKey, okH, bkp, bk, bkH, lof_snoc_int, List.getD_cons_zero, List.getD_cons_succ]; first | done | rfl) | (simp [AV.mapN, AV.mapNL, Ob.mapN, mapNL_p, cnx, canH, canH.canH1, St.h, lowE, lowH, lowL, lowN, AV.allN, AV.allNL, Ob.allN, allNL_p, okNm, okKey, okH, bkp, bk, bkH]; done)), ?_⟩
    simp only [go_sem, ↓reduceIte, Nat.reduceLT, Nat.reduceLeDiff, Nat.reduceEqDiff, Nat.reduceAdd, Nat.reduceSub, Nat.reduceDiv, Nat.reduceMod, Nat.reduceMul, Nat.reduceBEq, Nat.reduceBNe, reduceCtorEq, Int.reduceLT, Int.reduceLE, Int.reduceEq, Int.reduceNe, Int.reduceBEq, Int.reduceBNe, Int.reduceAdd, Int.reduceSub, Int.reduceNeg, Int.reduceToNat, St.back, AV.mapN, AV.mapNL, Ob.mapN, mapNL_p, bk, bkp, bkH, ec]
    (repeat with_reducible refine And.intro (by (repeat' with_reducible refine And.intro ?_ ?_) <;> first | with_reducible assumption | omega | (simp only [InK_i64, InK_u64, InK_u8]; omega) | (unfold sz; omega) | exact True.intro) ?_)
    refine vcallO [5000000, 5000001, 10022] 30000 i2 (by first | rfl | (simp only [go_sem, seval, AV.mapN, AV.mapNL, Ob.mapN, mapNL_p, cnx, canH, canH.canH1, lowE, lowH, lowL, lowN, AV.allN, AV.allNL, Ob.allN, allNL_p, okNm, okKey, okH, bkp, bk, bkH, lof_snoc_int, List.getD_cons_zero, List.getD_cons_succ]; first | done | rfl) | (simp [AV.mapN, AV.mapNL, Ob.mapN, mapNL_p, cnx, canH, canH.canH1, St.h, lowE, lowH, lowL, lowN, AV.allN, AV.allNL, Ob.allN, allNL_p, okNm, okKey, okH, bkp, bk, bkH]; done)) (by first | rfl | (simp only [go_sem, seval, AV.mapN, AV.mapNL, Ob.mapN, mapNL_p, cnx, canH, canH.canH1, lowE, lowH, lowL, lowN, AV.allN, AV.allNL, Ob.allN, allNL_p, okNm, okKey, okH, bkp, bk, bkH, lof_snoc_int, List.getD_cons_zero, List.getD_cons_succ]; first | done | rfl) | (simp [AV.mapN, AV.mapNL, Ob.mapN, mapNL_p, cnx, canH, canH.canH1, St.h, lowE, lowH, lowL, lowN, AV.allN, AV.allNL, Ob.allN, allNL_p, okNm, okKey, okH, bkp, bk, bkH]; done)) (by omega) (by first | rfl | (simp only [go_sem, seval, AV.mapN, AV.mapNL, Ob.mapN, mapNL_p, cnx, canH, canH.canH1, lowE, lowH, lowL, lowN, AV.allN, AV.allNL, Ob.allN, allNL_p, okNm, okKey, okH, bkp, bk, bkH, lof_snoc_int, List.getD_cons_zero, List.getD_cons_succ]; first | done | rfl) | (simp [AV.mapN, AV.mapNL, Ob.mapN, mapNL_p, cnx, canH, canH.canH1, St.h, lowE, lowH, lowL, lowN, AV.allN, AV.allNL, Ob.allN, allNL_p, okNm, okKey, okH, bkp, bk, bkH]; done)) ?_
    rintro x H' ⟨rfl, rfl⟩
    refine ⟨(by first | rfl | (simp only [go_sem, seval, AV.mapN, AV.mapNL, Ob.mapN, mapNL_p, cnx, canH, canH.canH1, lowE, lowH, lowL, lowN, AV.allN, AV.allNL, Ob.allN, allNL_p, okNm, okKey, okH, bkp, bk, bkH, lof_snoc_int, List.getD_cons_zero, List.getD_cons_succ]; first | done | rfl) | (simp [AV.mapN, AV.mapNL, Ob.mapN, mapNL_p, cnx, canH, canH.canH1, St.h, lowE, lowH, lowL, lowN, AV.allN, AV.allNL, Ob.allN, allNL_p, okNm, okKey, okH, bkp, bk, bkH]; done)), ?_⟩
    simp only [go_sem, ↓reduceIte, Nat.reduceLT, Nat.reduceLeDiff, Nat.reduceEqDiff, Nat.reduceAdd, Nat.reduceSub, Nat.reduceDiv, Nat.reduceMod, Nat.reduceMul, Nat.reduceBEq, Nat.reduceBNe, reduceCtorEq, Int.reduceLT, Int.reduceLE, Int.reduceEq, Int.reduceNe, Int.reduceBEq, Int.reduceBNe, Int.reduceAdd, Int.reduceSub, Int.reduceNeg, Int.reduceToNat, St.back, AV.mapN, AV.mapNL, Ob.mapN, mapNL_p, bk, bkp, bkH]
    exact ⟨_, Le.refl _, rfl, by simp⟩

theorem Best5_spec (L : List Int) (hpre : sz L.length) : Ret Try.prog 18 [ints L] (.tuple [ints (bestV L), errP (checkL L)]) := by
  refine fn_of (T := [ent_check5, ent_known]) (N := 22) (RO := [5]) (CH := []) (KS := [0, 2, 3, 4, 5, 6, 7, 11]) (NS := [2, 6, 7, 22, 10022]) (fun args w => Try.call18 args w) Try.func18 rfl rfl (by simp) mixed (by kernel_rfl) ⟨tab_check5_ok, tab_known_ok, trivial⟩ ?_
  simp only [go_sem, ↓reduceIte, Nat.reduceLT, Nat.reduceLeDiff, Nat.reduceEqDiff, Nat.reduceAdd, Nat.reduceSub, Nat.reduceDiv, Nat.reduceMod, Nat.reduceMul, Nat.reduceBEq, Nat.reduceBNe, reduceCtorEq, Int.reduceLT, Int.reduceLE, Int.reduceEq, Int.reduceNe, Int.reduceBEq, Int.reduceBNe, Int.reduceAdd, Int.reduceSub, Int.reduceNeg, Int.reduceToNat]
  refine ⟨hpre, ?_⟩
  by_cases h : checkL L = 0
  · have hL := loads_ok h
    have h1 := hL.lo; have h8 := hL.hi
    simp only [go_sem, ↓reduceIte, Nat.reduceLT, Nat.reduceLeDiff, Nat.reduceEqDiff, Nat.reduceAdd, Nat.reduceSub, Nat.reduceDiv, Nat.reduceMod, Nat.reduceMul, Nat.reduceBEq, Nat.reduceBNe, reduceCtorEq, Int.reduceLT, Int.reduceLE, Int.reduceEq, Int.reduceNe, Int.reduceBEq, Int.reduceBNe, Int.reduceAdd, Int.reduceSub, Int.reduceNeg, Int.reduceToNat, h, bne_self_eq_false, loads_ok' h]
    (repeat with_reducible refine And.intro (by (repeat' with_reducible refine And.intro ?_ ?_) <;> first | with_reducible assumption | omega | (simp only [InK_i64, InK_u64, InK_u8]; omega) | (unfold sz; omega) | exact True.intro) ?_)
    refine vcall_nilC 6 0 22 3 1 (by first | rfl | (simp only [go_sem, seval, AV.mapN, AV.mapNL, Ob.mapN, mapNL_p, cnx, canH, canH.canH1, lowE, lowH, lowL, lowN, AV.allN, AV.allNL, Ob.allN, allNL_p, okNm, okKey, okH, bkp, bk, bkH, lof_snoc_int, List.getD_cons_zero, List.getD_cons_succ]; first | done | rfl) | (simp [AV.mapN, AV.mapNL, Ob.mapN, mapNL_p, cnx, canH, canH.canH1, St.h, lowE, lowH, lowL, lowN, AV.allN, AV.allNL, Ob.allN, allNL_p, okNm, okKey, okH, bkp, bk, bkH]; done)) ?_
    have hp := putB_spec L hL L.length h1 0 [] (by omega) (by simp; omega)
    have en : natP (0 + L.length - 1) = intP ((L.length : Int) - 1) := by unfold natP intP; congr 2; omega
    rw [en] at hp
    simp only [go_sem, ↓reduceIte, Nat.reduceLT, Nat.reduceLeDiff, Nat.reduceEqDiff, Nat.reduceAdd, Nat.reduceSub, Nat.reduceDiv, Nat.reduceMod, Nat.reduceMul, Nat.reduceBEq, Nat.reduceBNe, reduceCtorEq, Int.reduceLT, Int.reduceLE, Int.reduceEq, Int.reduceNe, Int.reduceBEq, Int.reduceBNe, Int.reduceAdd, Int.reduceSub, Int.reduceNeg, Int.reduceToNat]
    refine vcallO [6, 7, 22] 10000 hp (by first | rfl | (simp only [go_sem, seval, AV.mapN, AV.mapNL, Ob.mapN, mapNL_p, cnx, canH, canH.canH1, lowE, lowH, lowL, lowN, AV.allN, AV.allNL, Ob.allN, allNL_p, okNm, okKey, okH, bkp, bk, bkH, lof_snoc_int, List.getD_cons_zero, List.getD_cons_succ]; first | done | rfl) | (simp [AV.mapN, AV.mapNL, Ob.mapN, mapNL_p, cnx, canH, canH.canH1, St.h, lowE, lowH, lowL, lowN, AV.allN, AV.allNL, Ob.allN, allNL_p, okNm, okKey, okH, bkp, bk, bkH]; done)) (by first | rfl | (simp only [go_sem, seval, AV.mapN, AV.mapNL, Ob.mapN, mapNL_p, cnx, canH, canH.canH1, lowE, lowH, lowL, lowN, AV.allN, AV.allNL, Ob.allN, allNL_p, okNm, okKey, okH, bkp, bk, bkH, lof_snoc_int, List.getD_cons_zero, List.getD_cons_succ]; first | done | rfl) | (simp [AV.mapN, AV.mapNL, Ob.mapN, mapNL_p, cnx, canH, canH.canH1, St.h, lowE, lowH, lowL, lowN, AV.allN, AV.allNL, Ob.allN, allNL_p, okNm, okKey, okH, bkp, bk, bkH]; done)) (by omega) (by first | rfl | (simp only [go_sem, seval, AV.mapN, AV.mapNL, Ob.mapN, mapNL_p, cnx, canH, canH.canH1, lowE, lowH, lowL, lowN, AV.allN, AV.allNL, Ob.allN, allNL_p, okNm, okKey, okH, bkp, bk, bkH, lof_snoc_int, List.getD_cons_zero, List.getD_cons_succ]; first | done | rfl) | (simp [AV.mapN, AV.mapNL, Ob.mapN, mapNL_p, cnx, canH, canH.canH1, St.h, lowE, lowH, lowL, lowN, AV.allN, AV.allNL, Ob.allN, allNL_p, okNm, okKey, okH, bkp, bk, bkH]; done)) ?_
    rintro x H' ⟨rfl, rfl⟩
    refine ⟨(by first | rfl | (simp only [go_sem, seval, AV.mapN, AV.mapNL, Ob.mapN, mapNL_p, cnx, canH, canH.canH1, lowE, lowH, lowL, lowN, AV.allN, AV.allNL, Ob.allN, allNL_p, okNm, okKey, okH, bkp, bk, bkH, lof_snoc_int, List.getD_cons_zero, List.getD_cons_succ]; first | done | rfl) | (simp [AV.mapN, AV.mapNL, Ob.mapN, mapNL_p, cnx, canH, canH.canH1, St.h, lowE, lowH, lowL, lowN, AV.allN, AV.allNL, Ob.allN, allNL_p, okNm, okKey, okH, bkp, bk, bkH]; done)), ?_⟩
    simp only [go_sem, ↓reduceIte, Nat.reduceLT, Nat.reduceLeDiff, Nat.reduceEqDiff, Nat.reduceAdd, Nat.reduceSub, Nat.reduceDiv, Nat.reduceMod, Nat.reduceMul, Nat.reduceBEq, Nat.reduceBNe, reduceCtorEq, Int.reduceLT, Int.reduceLE, Int.reduceEq, Int.reduceNe, Int.reduceBEq, Int.reduceBNe, Int.reduceAdd, Int.reduceSub, Int.reduceNeg, Int.reduceToNat, St.back, AV.mapN, AV.mapNL, Ob.mapN, mapNL_p, bk, bkp, bkH]
    unfold bestV
    rw [if_pos h]
    exact ex_le_refl rfl
  · have hn : (checkL L != 0) = true := by simp [h]
    simp only [go_sem, ↓reduceIte, Nat.reduceLT, Nat.reduceLeDiff, Nat.reduceEqDiff, Nat.reduceAdd, Nat.reduceSub, Nat.reduceDiv, Nat.reduceMod, Nat.reduceMul, Nat.reduceBEq, Nat.reduceBNe, reduceCtorEq, Int.reduceLT, Int.reduceLE, Int.reduceEq, Int.reduceNe, Int.reduceBEq, Int.reduceBNe, Int.reduceAdd, Int.reduceSub, Int.reduceNeg, Int.reduceToNat, hn]
    unfold bestV
    rw [if_neg h]
    refine ex_le ?_
    (repeat' (first | exact Le.refl _ | exact Le.nilS _ _ | exact Le.tight | refine Le.tuple ?_ | refine Le.list ?_ | refine Le.agg ?_ | refine LeL.cons ?_ ?_ | exact LeL.nil))
noncomputable def tab_Best5 : Tab := tabOf (fun p : (List Int) => match p with | L => [ints L]) (fun p : (List Int) => match p with | L => sz L.length) (fun p : (List Int) => match p with | L => .tuple [ints (bestV L), errP (checkL L)])
theorem tab_Best5_eq (L : List Int) : tab_Best5 [ints L] = some (sz L.length, .p (.tuple [ints (bestV L), errP (checkL L)])) := tabOf_eq (enc := fun p : (List Int) => match p with | L => [ints L]) (pre := fun p : (List Int) => match p with | L => sz L.length) (out := fun p : (List Int) => match p with | L => .tuple [ints (bestV L), errP (checkL L)]) (by rintro L L' h; simp at h; first | (simp [h]; done) | omega | (simp [h]; omega)) (L)
theorem tab_Best5_ok : TabOK Try.prog 18 tab_Best5 := tabOf_ok (by rintro L h; exact Best5_spec L h)
noncomputable abbrev ent_Best5 : FuncId × List Nat × Tab := (18, [1], tab_Best5)
attribute [go_sem] tab_Best5_eq
end Go.V
