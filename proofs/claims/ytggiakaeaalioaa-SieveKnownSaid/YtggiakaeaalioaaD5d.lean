/-
  Contracts of the program of chapter 05: how many trees there are, and the tree with a number. Conditions: none.
-/
import Derived.Test.YtggiakaeaalioaaD5c
import Derived.Test.YtggiakaeaalioaaP5a
set_option linter.unusedVariables false
set_option linter.unusedSimpArgs false
set_option linter.deprecated false
namespace Go.V
open Go.Proofs
set_option maxRecDepth 10000
set_option maxHeartbeats 2000000

abbrev cnT (f : Nat → Nat → Int) : List PV := cellsT fun x y => [intP (f x y)]
abbrev cnP (v : Int) : List PV := [intP v]
theorem cnP_length (v : Int) : (cnP v).length = 1 := rfl
def cntI (x y : Nat) : Int := R5.cnt (y - x + 1)
def KnownC (a b : Nat) (cs : List PV) : Prop := ∃ f, cs = cnT f ∧ ∀ x y, a ≤ x → x ≤ y → y ≤ b → y - x < b - a → f x y = cntI x y

theorem counts1_spec (a : Nat) (b : Nat) (cs : List PV) (hpre : a ≤ b ∧ b < 8 ∧ KnownC a b cs) : Ret Try.prog 97 [natP a, natP b, .ref cs 0] (intP (cntI a b)) := by
  refine fn_of (T := []) (N := 32) (RO := []) (CH := [6]) (KS := [0, 1, 2, 5, 6, 7, 10, 14]) (NS := []) (fun args w => Try.call97 args w) Try.func97 rfl rfl (by simp) mixed (by kernel_rfl) trivial ?_
  simp only [go_sem, ↓reduceIte, Nat.reduceLT, Nat.reduceLeDiff, Nat.reduceEqDiff, Nat.reduceAdd, Nat.reduceSub, Nat.reduceDiv, Nat.reduceMod, Nat.reduceMul, Nat.reduceBEq, Nat.reduceBNe, reduceCtorEq, Int.reduceLT, Int.reduceLE, Int.reduceEq, Int.reduceNe, Int.reduceBEq, Int.reduceBNe, Int.reduceAdd, Int.reduceSub, Int.reduceNeg, Int.reduceToNat]
  obtain ⟨hab, hb, f, rfl, hf⟩ := hpre
  have hl : (cnT f).length = 64 := cellsT_length fun x y => cnP_length _
  by_cases h : a = b
  · subst h
    have e : cntI a a = 1 := by unfold cntI; rw [Nat.sub_self]; rfl
    simp only [go_sem, ↓reduceIte, Nat.reduceLT, Nat.reduceLeDiff, Nat.reduceEqDiff, Nat.reduceAdd, Nat.reduceSub, Nat.reduceDiv, Nat.reduceMod, Nat.reduceMul, Nat.reduceBEq, Nat.reduceBNe, reduceCtorEq, Int.reduceLT, Int.reduceLE, Int.reduceEq, Int.reduceNe, Int.reduceBEq, Int.reduceBNe, Int.reduceAdd, Int.reduceSub, Int.reduceNeg, Int.reduceToNat, beq_self_eq_true]
    rw [e]
    exact ex_le_refl rfl
  · have hne : ((a : Int) == b) = false := by rw [beq_eq_false_iff_ne]; omega
    obtain ⟨m, hm⟩ : ∃ m, b = a + m := ⟨b - a, by omega⟩
    have e : cntI a b = (R5.cntU (m + 1) m : Nat) := by unfold cntI; rw [R5.cnt_step (by omega), show b - a + 1 = m + 1 by omega]; rfl
    rw [e]
    simp only [go_sem, ↓reduceIte, Nat.reduceLT, Nat.reduceLeDiff, Nat.reduceEqDiff, Nat.reduceAdd, Nat.reduceSub, Nat.reduceDiv, Nat.reduceMod, Nat.reduceMul, Nat.reduceBEq, Nat.reduceBNe, reduceCtorEq, Int.reduceLT, Int.reduceLE, Int.reduceEq, Int.reduceNe, Int.reduceBEq, Int.reduceBNe, Int.reduceAdd, Int.reduceSub, Int.reduceNeg, Int.reduceToNat, hne]
    refine vfor [0,1,2,6,7] [] [] m (fun _ => True) (fun i => ⟨[(0,.p (natP a)),(1,.p (natP b)),(2,.p (.ref (cnT f) 0)),(6,.p (natP (R5.cntU (m + 1) i))),(7,.p (natP (a + i)))], []⟩) (by first | rfl | (simp only [go_sem, ↓reduceIte, Nat.reduceLT, Nat.reduceLeDiff, Nat.reduceEqDiff, Nat.reduceAdd, Nat.reduceSub, Nat.reduceDiv, Nat.reduceMod, Nat.reduceMul, Nat.reduceBEq, Nat.reduceBNe, reduceCtorEq, Int.reduceLT, Int.reduceLE, Int.reduceEq, Int.reduceNe, Int.reduceBEq, Int.reduceBNe, Int.reduceAdd, Int.reduceSub, Int.reduceNeg, Int.reduceToNat, R5.cntU_zero]; first | done | rfl)) trivial ?_
    intro i hi _
    by_cases hlt : i < m
    · have hlt' : ((a + i : Nat) : Int) < (b : Int) := by omega
      have ei : ((a + i : Nat) : Int) + 1 = ((a + (i + 1) : Nat) : Int) := by push_cast; omega
      have g1 : (cnT f).getD (a * 8 + (a + i)) default = intP (R5.cnt (i + 1)) := by
        rw [cellsT_get (k := 0) (s := 1) (x := a) (y := a + i) (fun x y => cnP_length _) (by omega) (by omega) (by omega) (by omega), hf a (a + i) (by omega) (by omega) (by omega) (by omega)]
        unfold cntI; rw [show a + i - a + 1 = i + 1 by omega]; rfl
      have g2 : (cnT f).getD ((a + (i + 1)) * 8 + b) default = intP (R5.cnt (m + 1 - 1 - i)) := by
        rw [cellsT_get (k := 0) (s := 1) (x := a + (i + 1)) (y := b) (fun x y => cnP_length _) (by omega) (by omega) (by omega) (by omega), hf (a + (i + 1)) b (by omega) (by omega) (by omega) (by omega)]
        unfold cntI; rw [show b - (a + (i + 1)) + 1 = m + 1 - 1 - i by omega]; rfl
      have hs := R5.cntU_succ (m + 1) i
      have hu : R5.cntU (m + 1) (i + 1) ≤ 429 := by
        have h1 := R5.cntU_mono (m + 1) (show i + 1 ≤ m + 1 - 1 by omega)
        rw [← R5.cnt_step (by omega)] at h1
        have := R5.cnt_le (n := m + 1) (by omega)
        omega
      have hp : (R5.cnt (i + 1) : Int) * (R5.cnt (m + 1 - 1 - i) : Int) = ((R5.cnt (i + 1) * R5.cnt (m + 1 - 1 - i) : Nat) : Int) := by push_cast; rfl
      have hpb : R5.cnt (i + 1) * R5.cnt (m + 1 - 1 - i) ≤ 429 := by omega
      generalize R5.cnt (i + 1) * R5.cnt (m + 1 - 1 - i) = p at *
      simp only [go_sem, ↓reduceIte, Nat.reduceLT, Nat.reduceLeDiff, Nat.reduceEqDiff, Nat.reduceAdd, Nat.reduceSub, Nat.reduceDiv, Nat.reduceMod, Nat.reduceMul, Nat.reduceBEq, Nat.reduceBNe, reduceCtorEq, Int.reduceLT, Int.reduceLE, Int.reduceEq, Int.reduceNe, Int.reduceBEq, Int.reduceBNe, Int.reduceAdd, Int.reduceSub, Int.reduceNeg, Int.reduceToNat, Nat.mul_one, hlt', ei, hl, g1, g2, hp]
      rw [hs]
      push_cast
      (repeat' (first | (rw [InK_i64]; omega) | (rw [InK_u8]; omega) | (rw [InK_u64]; omega) | omega | rfl | apply And.intro))
    · have hlt' : ¬ ((a + i : Nat) : Int) < (b : Int) := by omega
      simp only [go_sem, ↓reduceIte, Nat.reduceLT, Nat.reduceLeDiff, Nat.reduceEqDiff, Nat.reduceAdd, Nat.reduceSub, Nat.reduceDiv, Nat.reduceMod, Nat.reduceMul, Nat.reduceBEq, Nat.reduceBNe, reduceCtorEq, Int.reduceLT, Int.reduceLE, Int.reduceEq, Int.reduceNe, Int.reduceBEq, Int.reduceBNe, Int.reduceAdd, Int.reduceSub, Int.reduceNeg, Int.reduceToNat, hlt']
      obtain rfl : i = m := by omega
      exact ex_le_refl rfl
noncomputable def tab_counts1 : Tab := tabOf (fun p : (Nat) × (Nat) × (List PV) => match p with | (a, b, cs) => [natP a, natP b, .ref cs 0]) (fun p : (Nat) × (Nat) × (List PV) => match p with | (a, b, cs) => a ≤ b ∧ b < 8 ∧ KnownC a b cs) (fun p : (Nat) × (Nat) × (List PV) => match p with | (a, b, cs) => intP (cntI a b))
theorem tab_counts1_eq (a : Nat) (b : Nat) (cs : List PV) : tab_counts1 [natP a, natP b, .ref cs 0] = some (a ≤ b ∧ b < 8 ∧ KnownC a b cs, .p (intP (cntI a b))) := tabOf_eq (enc := fun p : (Nat) × (Nat) × (List PV) => match p with | (a, b, cs) => [natP a, natP b, .ref cs 0]) (pre := fun p : (Nat) × (Nat) × (List PV) => match p with | (a, b, cs) => a ≤ b ∧ b < 8 ∧ KnownC a b cs) (out := fun p : (Nat) × (Nat) × (List PV) => match p with | (a, b, cs) => intP (cntI a b)) (by rintro ⟨a, b, cs⟩ ⟨a', b', cs'⟩ h; simp at h; first | (simp [h]; done) | omega | (simp [h]; omega)) (a, b, cs)
theorem tab_counts1_ok : TabOK Try.prog 97 tab_counts1 := tabOf_ok (by rintro ⟨a, b, cs⟩ h; exact counts1_spec a b cs h)
noncomputable abbrev ent_counts1 : FuncId × List Nat × Tab := (97, [], tab_counts1)
attribute [go_sem] tab_counts1_eq

/-- the table while spans of n kinds are filled -/
def tabIc (n w c : Nat) : Nat → Nat → Int := fun x y => if x ≤ y ∧ y < n ∧ (y - x < w ∨ (y - x = w ∧ x < c)) then cntI x y else 0
theorem tabIc_known (n w c : Nat) (h : c + w < n) : KnownC c (c + w) (cnT (tabIc n w c)) := ⟨_, rfl, fun x y h0 h1 h2 h3 => by unfold tabIc; rw [if_pos ⟨h1, by omega, .inl (by omega)⟩]⟩
theorem tabIc_next (n w c : Nat) (h : c + w < n) : updT (tabIc n w c) c (c + w) (cntI c (c + w)) = tabIc n w (c + 1) := by
  funext x y
  unfold updT tabIc
  by_cases h1 : x = c ∧ y = c + w
  · obtain ⟨rfl, rfl⟩ := h1
    rw [if_pos ⟨rfl, rfl⟩, if_pos ⟨by omega, by omega, .inr ⟨by omega, by omega⟩⟩]
  · rw [if_neg h1]
    by_cases h2 : x ≤ y ∧ y < n ∧ (y - x < w ∨ (y - x = w ∧ x < c))
    · rw [if_pos h2, if_pos ⟨h2.1, h2.2.1, by omega⟩]
    · rw [if_neg h2, if_neg (fun h3 => h2 ⟨h3.1, h3.2.1, by omega⟩)]
theorem tabIc_wide (n w : Nat) : tabIc n w (n - w) = tabIc n (w + 1) 0 := by
  funext x y
  unfold tabIc
  by_cases h2 : x ≤ y ∧ y < n ∧ (y - x < w ∨ (y - x = w ∧ x < n - w))
  · rw [if_pos h2, if_pos ⟨h2.1, h2.2.1, by omega⟩]
  · rw [if_neg h2, if_neg (fun h3 => h2 ⟨h3.1, h3.2.1, by omega⟩)]
def tabWc (n : Nat) : Nat → Nat → Int := fun x y => if x ≤ y ∧ y < n then cntI x y else 0
theorem tabIc_last (n : Nat) : tabIc n n 0 = tabWc n := by
  funext x y
  unfold tabIc tabWc
  by_cases h2 : x ≤ y ∧ y < n
  · rw [if_pos h2, if_pos ⟨h2.1, h2.2, by omega⟩]
  · rw [if_neg h2, if_neg (fun h3 => h2 ⟨h3.1, h3.2.1⟩)]
theorem tabIc_first (n : Nat) : tabIc n 0 0 = fun _ _ => 0 := by
  funext x y
  unfold tabIc
  rw [if_neg (by omega)]

theorem fillC_spec (n : Nat) (h8 : n ≤ 8) : FnO Try.prog 96 [.ptr 5000000 0, .p (natP n), .clo 97 [.ptr 5000000 0]] [(5000000, .cells 107 ((cnT fun _ _ => 0).map .p))]
    (fun x H => x = .p (.tuple []) ∧ H = [(5000000, .cells 107 ((cnT (tabWc n)).map .p))]) := by
  refine fnO_of (T := [ent_counts1]) [5000000] [] (N := 34) (RO := []) (CH := [28, 4018003, 4019005, 4020012, 4021013, 4022017, 4023033, 4029004, 4030011, 4031032]) (KS := [0, 1, 2, 6, 7, 8, 9, 10, 14, 15, 16]) (NS := [5000000]) (fun args w => Try.call96 args w) Try.func96 rfl rfl (by simp) mixed (by kernel_rfl) ⟨tab_counts1_ok, trivial⟩ ?_
  simp only [go_sem, ↓reduceIte, Nat.reduceLT, Nat.reduceLeDiff, Nat.reduceEqDiff, Nat.reduceAdd, Nat.reduceSub, Nat.reduceDiv, Nat.reduceMod, Nat.reduceMul, Nat.reduceBEq, Nat.reduceBNe, reduceCtorEq, Int.reduceLT, Int.reduceLE, Int.reduceEq, Int.reduceNe, Int.reduceBEq, Int.reduceBNe, Int.reduceAdd, Int.reduceSub, Int.reduceNeg, Int.reduceToNat]
  refine vfor [0,1,2,8,9] [5000000] [] n (fun _ => True) (fun w => ⟨[(0,.ptr 5000000 0),(1,.p (natP n)),(2,.clo 97 [.ptr 5000000 0]),(8,.p (natP n)),(9,.p (natP w))], [(5000000,.cells 107 ((cnT (tabIc n w 0)).map .p))]⟩) (by rw [tabIc_first]; simp only [go_sem, ↓reduceIte, Nat.reduceLT, Nat.reduceLeDiff, Nat.reduceEqDiff, Nat.reduceAdd, Nat.reduceSub, Nat.reduceDiv, Nat.reduceMod, Nat.reduceMul, Nat.reduceBEq, Nat.reduceBNe, reduceCtorEq, Int.reduceLT, Int.reduceLE, Int.reduceEq, Int.reduceNe, Int.reduceBEq, Int.reduceBNe, Int.reduceAdd, Int.reduceSub, Int.reduceNeg, Int.reduceToNat]; first | done | rfl) trivial ?_
  intro w hw _
  by_cases hlt : w < n
  · simp only [go_sem, ↓reduceIte, Nat.reduceLT, Nat.reduceLeDiff, Nat.reduceEqDiff, Nat.reduceAdd, Nat.reduceSub, Nat.reduceDiv, Nat.reduceMod, Nat.reduceMul, Nat.reduceBEq, Nat.reduceBNe, reduceCtorEq, Int.reduceLT, Int.reduceLE, Int.reduceEq, Int.reduceNe, Int.reduceBEq, Int.reduceBNe, Int.reduceAdd, Int.reduceSub, Int.reduceNeg, Int.reduceToNat, hlt]
    (repeat with_reducible refine And.intro (by (repeat' with_reducible refine And.intro ?_ ?_) <;> first | with_reducible assumption | omega | (rw [InK_i64]; omega) | (rw [InK_u64]; omega) | (rw [InK_u8]; omega) | (unfold sz; omega) | exact True.intro) ?_)
    have ew : (n : Int) - w = ((n - w : Nat) : Int) := by omega
    rw [ew]
    refine vfor [0,1,2,6,8,9,14,15] [5000000] [] (n - w) (fun _ => True) (fun c => ⟨[(0,.ptr 5000000 0),(1,.p (natP n)),(2,.clo 97 [.ptr 5000000 0]),(6,.p (natP w)),(8,.p (natP n)),(9,.p (natP w)),(14,.p (natP (n - w))),(15,.p (natP c))], [(5000000,.cells 107 ((cnT (tabIc n w c)).map .p))]⟩) (by first | rfl | (simp only [go_sem, ↓reduceIte, Nat.reduceLT, Nat.reduceLeDiff, Nat.reduceEqDiff, Nat.reduceAdd, Nat.reduceSub, Nat.reduceDiv, Nat.reduceMod, Nat.reduceMul, Nat.reduceBEq, Nat.reduceBNe, reduceCtorEq, Int.reduceLT, Int.reduceLE, Int.reduceEq, Int.reduceNe, Int.reduceBEq, Int.reduceBNe, Int.reduceAdd, Int.reduceSub, Int.reduceNeg, Int.reduceToNat]; first | done | rfl)) trivial ?_
    intro c hc _
    by_cases hlc : c < n - w
    · have ec : ((c : Int) + (w : Int)) = ((c + w : Nat) : Int) := by push_cast; rfl
      have hl : (cnT (tabIc n w c)).length = 64 := cellsT_length fun x y => cnP_length _
      have hK := tabIc_known n w c (by omega)
      have ho : c * 8 + (c + w) ≤ 63 := by omega
      have hset := cellsT_setA (s := 1) (c := cnP) cnP_length (f := tabIc n w c) (x := c) (y := c + w) (o := c * 8 + (c + w)) (by omega) (by omega) (by omega) (cntI c (c + w))
      rw [tabIc_next n w c (by omega)] at hset
      simp only [go_sem, ↓reduceIte, Nat.reduceLT, Nat.reduceLeDiff, Nat.reduceEqDiff, Nat.reduceAdd, Nat.reduceSub, Nat.reduceDiv, Nat.reduceMod, Nat.reduceMul, Nat.reduceBEq, Nat.reduceBNe, reduceCtorEq, Int.reduceLT, Int.reduceLE, Int.reduceEq, Int.reduceNe, Int.reduceBEq, Int.reduceBNe, Int.reduceAdd, Int.reduceSub, Int.reduceNeg, Int.reduceToNat, Nat.mul_one, false_and, hlc, ec, pvs_map, List.length_map, hl, ho]
      refine ⟨by rw [InK_i64]; omega, by omega, by omega, by rw [InK_i64]; omega, ⟨by omega, by omega, hK⟩, by rw [InK_i64]; omega, ?_⟩
      rw [← hset]
      rfl
    · simp only [go_sem, ↓reduceIte, Nat.reduceLT, Nat.reduceLeDiff, Nat.reduceEqDiff, Nat.reduceAdd, Nat.reduceSub, Nat.reduceDiv, Nat.reduceMod, Nat.reduceMul, Nat.reduceBEq, Nat.reduceBNe, reduceCtorEq, Int.reduceLT, Int.reduceLE, Int.reduceEq, Int.reduceNe, Int.reduceBEq, Int.reduceBNe, Int.reduceAdd, Int.reduceSub, Int.reduceNeg, Int.reduceToNat, hlc]
      obtain rfl : c = n - w := by omega
      rw [tabIc_wide]
      (repeat' (first | (rw [InK_i64]; omega) | (rw [InK_u8]; omega) | (rw [InK_u64]; omega) | omega | rfl | apply And.intro))
  · simp only [go_sem, ↓reduceIte, Nat.reduceLT, Nat.reduceLeDiff, Nat.reduceEqDiff, Nat.reduceAdd, Nat.reduceSub, Nat.reduceDiv, Nat.reduceMod, Nat.reduceMul, Nat.reduceBEq, Nat.reduceBNe, reduceCtorEq, Int.reduceLT, Int.reduceLE, Int.reduceEq, Int.reduceNe, Int.reduceBEq, Int.reduceBNe, Int.reduceAdd, Int.reduceSub, Int.reduceNeg, Int.reduceToNat, hlt]
    obtain rfl : w = n := by omega
    rw [tabIc_last]
    exact ⟨_, Le.refl _, rfl, rfl⟩

theorem zero_cellsC (n : Nat) (hn : n = 64) : (List.replicate n (Value.int .i64 0)).map (fun v => AV.p (.val v)) = (cnT fun _ _ => 0).map .p := by subst hn; rfl

theorem counts_spec (n : Nat) (hpre : n ≤ 8) : Ret Try.prog 71 [natP n] (.ref (cnT (tabWc n)) 0) := by
  refine fn_of (T := []) (N := 7) (RO := []) (CH := []) (KS := [0, 2, 3]) (NS := [2, 3]) (fun args w => Try.call71 args w) Try.func71 rfl rfl (by simp) mixed (by kernel_rfl) trivial ?_
  simp only [go_sem, ↓reduceIte, Nat.reduceLT, Nat.reduceLeDiff, Nat.reduceEqDiff, Nat.reduceAdd, Nat.reduceSub, Nat.reduceDiv, Nat.reduceMod, Nat.reduceMul, Nat.reduceBEq, Nat.reduceBNe, reduceCtorEq, Int.reduceLT, Int.reduceLE, Int.reduceEq, Int.reduceNe, Int.reduceBEq, Int.reduceBNe, Int.reduceAdd, Int.reduceSub, Int.reduceNeg, Int.reduceToNat, zero_one, zero_cellsC]
  refine vcallO [3] 10000 (fillC_spec n hpre) (by first | rfl | (simp only [go_sem, ↓reduceIte, Nat.reduceLT, Nat.reduceLeDiff, Nat.reduceEqDiff, Nat.reduceAdd, Nat.reduceSub, Nat.reduceDiv, Nat.reduceMod, Nat.reduceMul, Nat.reduceBEq, Nat.reduceBNe, reduceCtorEq, Int.reduceLT, Int.reduceLE, Int.reduceEq, Int.reduceNe, Int.reduceBEq, Int.reduceBNe, Int.reduceAdd, Int.reduceSub, Int.reduceNeg, Int.reduceToNat, AV.mapN, AV.mapNL, Ob.mapN, mapNL_p, cnx, canH, canH.canH1, lowE, lowH, lowL, lowN, AV.allN, AV.allNL, Ob.allN, allNL_p, okNm, okKey, okH, bkp, bk, bkH, lof_snoc_int, List.getD_cons_zero, List.getD_cons_succ]; first | done | rfl) | (simp [AV.mapN, AV.mapNL, Ob.mapN, mapNL_p, cnx, canH, canH.canH1, St.h, lowE, lowH, lowL, lowN, AV.allN, AV.allNL, Ob.allN, allNL_p, okNm, okKey, okH, bkp, bk, bkH]; done)) (by first | rfl | (simp only [go_sem, ↓reduceIte, Nat.reduceLT, Nat.reduceLeDiff, Nat.reduceEqDiff, Nat.reduceAdd, Nat.reduceSub, Nat.reduceDiv, Nat.reduceMod, Nat.reduceMul, Nat.reduceBEq, Nat.reduceBNe, reduceCtorEq, Int.reduceLT, Int.reduceLE, Int.reduceEq, Int.reduceNe, Int.reduceBEq, Int.reduceBNe, Int.reduceAdd, Int.reduceSub, Int.reduceNeg, Int.reduceToNat, AV.mapN, AV.mapNL, Ob.mapN, mapNL_p, cnx, canH, canH.canH1, lowE, lowH, lowL, lowN, AV.allN, AV.allNL, Ob.allN, allNL_p, okNm, okKey, okH, bkp, bk, bkH, lof_snoc_int, List.getD_cons_zero, List.getD_cons_succ]; first | done | rfl) | (simp [AV.mapN, AV.mapNL, Ob.mapN, mapNL_p, cnx, canH, canH.canH1, St.h, lowE, lowH, lowL, lowN, AV.allN, AV.allNL, Ob.allN, allNL_p, okNm, okKey, okH, bkp, bk, bkH]; done)) (by omega) (by first | rfl | (simp only [go_sem, ↓reduceIte, Nat.reduceLT, Nat.reduceLeDiff, Nat.reduceEqDiff, Nat.reduceAdd, Nat.reduceSub, Nat.reduceDiv, Nat.reduceMod, Nat.reduceMul, Nat.reduceBEq, Nat.reduceBNe, reduceCtorEq, Int.reduceLT, Int.reduceLE, Int.reduceEq, Int.reduceNe, Int.reduceBEq, Int.reduceBNe, Int.reduceAdd, Int.reduceSub, Int.reduceNeg, Int.reduceToNat, AV.mapN, AV.mapNL, Ob.mapN, mapNL_p, cnx, canH, canH.canH1, lowE, lowH, lowL, lowN, AV.allN, AV.allNL, Ob.allN, allNL_p, okNm, okKey, okH, bkp, bk, bkH, lof_snoc_int, List.getD_cons_zero, List.getD_cons_succ]; first | done | rfl) | (simp [AV.mapN, AV.mapNL, Ob.mapN, mapNL_p, cnx, canH, canH.canH1, St.h, lowE, lowH, lowL, lowN, AV.allN, AV.allNL, Ob.allN, allNL_p, okNm, okKey, okH, bkp, bk, bkH]; done)) ?_
  rintro x H' ⟨rfl, rfl⟩
  refine ⟨(by first | rfl | (simp only [go_sem, ↓reduceIte, Nat.reduceLT, Nat.reduceLeDiff, Nat.reduceEqDiff, Nat.reduceAdd, Nat.reduceSub, Nat.reduceDiv, Nat.reduceMod, Nat.reduceMul, Nat.reduceBEq, Nat.reduceBNe, reduceCtorEq, Int.reduceLT, Int.reduceLE, Int.reduceEq, Int.reduceNe, Int.reduceBEq, Int.reduceBNe, Int.reduceAdd, Int.reduceSub, Int.reduceNeg, Int.reduceToNat, AV.mapN, AV.mapNL, Ob.mapN, mapNL_p, cnx, canH, canH.canH1, lowE, lowH, lowL, lowN, AV.allN, AV.allNL, Ob.allN, allNL_p, okNm, okKey, okH, bkp, bk, bkH, lof_snoc_int, List.getD_cons_zero, List.getD_cons_succ]; first | done | rfl) | (simp [AV.mapN, AV.mapNL, Ob.mapN, mapNL_p, cnx, canH, canH.canH1, St.h, lowE, lowH, lowL, lowN, AV.allN, AV.allNL, Ob.allN, allNL_p, okNm, okKey, okH, bkp, bk, bkH]; done)), ?_⟩
  simp only [go_sem, ↓reduceIte, Nat.reduceLT, Nat.reduceLeDiff, Nat.reduceEqDiff, Nat.reduceAdd, Nat.reduceSub, Nat.reduceDiv, Nat.reduceMod, Nat.reduceMul, Nat.reduceBEq, Nat.reduceBNe, reduceCtorEq, Int.reduceLT, Int.reduceLE, Int.reduceEq, Int.reduceNe, Int.reduceBEq, Int.reduceBNe, Int.reduceAdd, Int.reduceSub, Int.reduceNeg, Int.reduceToNat, St.back, AV.mapN, AV.mapNL, Ob.mapN, mapNL_p, bk, bkp, bkH, pvs_map]
  exact ex_le_refl rfl
noncomputable def tab_counts : Tab := tabOf (fun p : (Nat) => match p with | n => [natP n]) (fun p : (Nat) => match p with | n => n ≤ 8) (fun p : (Nat) => match p with | n => .ref (cnT (tabWc n)) 0)
theorem tab_counts_eq (n : Nat) : tab_counts [natP n] = some (n ≤ 8, .p (.ref (cnT (tabWc n)) 0)) := tabOf_eq (enc := fun p : (Nat) => match p with | n => [natP n]) (pre := fun p : (Nat) => match p with | n => n ≤ 8) (out := fun p : (Nat) => match p with | n => .ref (cnT (tabWc n)) 0) (by rintro n n' h; simp at h; first | (simp [h]; done) | omega | (simp [h]; omega)) (n)
theorem tab_counts_ok : TabOK Try.prog 71 tab_counts := tabOf_ok (by rintro n h; exact counts_spec n h)
noncomputable abbrev ent_counts : FuncId × List Nat × Tab := (71, [], tab_counts)
attribute [go_sem] tab_counts_eq

/-- how many trees -/
def treesV (k : Int) : Int := if 1 ≤ k ∧ k ≤ 8 then (R5.cnt k.toNat : Int) else 0
def treesE (k : Int) : Int := if 1 ≤ k ∧ k ≤ 8 then 0 else 1
theorem inB_18 (k : Int) : inB k 1 8 = decide (1 ≤ k ∧ k ≤ 8) := by unfold inB; rw [Bool.decide_and]

theorem Trees5_spec (k : Int) (hpre : True) : Ret Try.prog 31 [intP k] (.tuple [intP (treesV k), errP (treesE k)]) := by
  refine fn_of (T := [ent_within, ent_counts]) (N := 15) (RO := []) (CH := []) (KS := [0, 2, 3, 6]) (NS := []) (fun args w => Try.call31 args w) Try.func31 rfl rfl (by simp) mixed (by kernel_rfl) ⟨tab_within_ok, tab_counts_ok, trivial⟩ ?_
  simp only [go_sem, ↓reduceIte, Nat.reduceLT, Nat.reduceLeDiff, Nat.reduceEqDiff, Nat.reduceAdd, Nat.reduceSub, Nat.reduceDiv, Nat.reduceMod, Nat.reduceMul, Nat.reduceBEq, Nat.reduceBNe, reduceCtorEq, Int.reduceLT, Int.reduceLE, Int.reduceEq, Int.reduceNe, Int.reduceBEq, Int.reduceBNe, Int.reduceAdd, Int.reduceSub, Int.reduceNeg, Int.reduceToNat]
  rw [inB_18]
  unfold treesV treesE
  by_cases h : 1 ≤ k ∧ k ≤ 8
  · obtain ⟨n, rfl⟩ : ∃ n : Nat, k = n := ⟨k.toNat, by omega⟩
    have hl : (cnT (tabWc n)).length = 64 := cellsT_length fun x y => cnP_length _
    have en : ((n : Int) - 1).toNat = n - 1 := by omega
    have g : (cnT (tabWc n)).getD (n - 1) default = intP (R5.cnt n) := by
      rw [cellsT_get (k := 0) (s := 1) (x := 0) (y := n - 1) (fun x y => cnP_length _) (by omega) (by omega) (by omega) (by omega)]
      unfold tabWc cntI; rw [if_pos ⟨by omega, by omega⟩, show n - 1 - 0 + 1 = n by omega]; rfl
    rw [if_pos h, if_pos h]
    simp only [go_sem, ↓reduceIte, Nat.reduceLT, Nat.reduceLeDiff, Nat.reduceEqDiff, Nat.reduceAdd, Nat.reduceSub, Nat.reduceDiv, Nat.reduceMod, Nat.reduceMul, Nat.reduceBEq, Nat.reduceBNe, reduceCtorEq, Int.reduceLT, Int.reduceLE, Int.reduceEq, Int.reduceNe, Int.reduceBEq, Int.reduceBNe, Int.reduceAdd, Int.reduceSub, Int.reduceNeg, Int.reduceToNat, Nat.mul_one, h, en, hl, g]
    (repeat with_reducible refine And.intro (by (repeat' with_reducible refine And.intro ?_ ?_) <;> first | with_reducible assumption | omega | (rw [InK_i64]; omega) | (rw [InK_u64]; omega) | (rw [InK_u8]; omega) | (unfold sz; omega) | exact True.intro) ?_)
    exact ex_le_refl rfl
  · rw [if_neg h, if_neg h]
    simp only [go_sem, ↓reduceIte, Nat.reduceLT, Nat.reduceLeDiff, Nat.reduceEqDiff, Nat.reduceAdd, Nat.reduceSub, Nat.reduceDiv, Nat.reduceMod, Nat.reduceMul, Nat.reduceBEq, Nat.reduceBNe, reduceCtorEq, Int.reduceLT, Int.reduceLE, Int.reduceEq, Int.reduceNe, Int.reduceBEq, Int.reduceBNe, Int.reduceAdd, Int.reduceSub, Int.reduceNeg, Int.reduceToNat, h]
    exact ex_le_refl rfl
noncomputable def tab_Trees5 : Tab := tabOf (fun p : (Int) => match p with | k => [intP k]) (fun p : (Int) => match p with | k => True) (fun p : (Int) => match p with | k => .tuple [intP (treesV k), errP (treesE k)])
theorem tab_Trees5_eq (k : Int) : tab_Trees5 [intP k] = some (True, .p (.tuple [intP (treesV k), errP (treesE k)])) := tabOf_eq (enc := fun p : (Int) => match p with | k => [intP k]) (pre := fun p : (Int) => match p with | k => True) (out := fun p : (Int) => match p with | k => .tuple [intP (treesV k), errP (treesE k)]) (by rintro k k' h; simp at h; first | (simp [h]; done) | omega | (simp [h]; omega)) (k)
theorem tab_Trees5_ok : TabOK Try.prog 31 tab_Trees5 := tabOf_ok (by rintro k h; exact Trees5_spec k h)
noncomputable abbrev ent_Trees5 : FuncId × List Nat × Tab := (31, [], tab_Trees5)
attribute [go_sem] tab_Trees5_eq
end Go.V
