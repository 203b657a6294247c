/-
  Contracts of the program of chapter 05: how many trees there are, and the tree with a number. Conditions: none.
  Contracts of the program of chapter 05: the tree with a number. Conditions: none.
-/
import Derived.Test.YtggiakaeaalioaaD5a
import Derived.Test.YtggiakaeaalioaaP5a
set_option linter.unusedVariables false
set_option linter.unusedSimpArgs false
set_option linter.deprecated false
namespace Go.V
open Go.Proofs
set_option maxRecDepth 10000
set_option maxHeartbeats 2000000

abbrev cnT (f : Nat → Nat → Int) : List PV := cellsT fun x y => [intP (f x y)]
abbrev cnP (v : Int) : List PV := [intP v]
theorem cnP_length (v : Int) : (cnP v).length = 1 := rfl
def cntI (x y : Nat) : Int := R5.cnt (y - x + 1)
def KnownC (a b : Nat) (cs : List PV) : Prop := ∃ f, cs = cnT f ∧ ∀ x y, a ≤ x → x ≤ y → y ≤ b → y - x < b - a → f x y = cntI x y

theorem counts1_spec (a : Nat) (b : Nat) (cs : List PV) (hpre : a ≤ b ∧ b < 8 ∧ KnownC a b cs) : Ret Try.prog 97 [natP a, natP b, .ref cs 0] (intP (cntI a b)) := by
  refine fn_of (T := []) (N := 32) (RO := []) (CH := [6]) (KS := [0, 1, 2, 5, 6, 7, 10, 14]) (NS := []) (fun args w => Try.call97 args w) Try.func97 rfl rfl (by simp) mixed (by kernel_rfl) trivial ?_
  simp only [go_sem, ↓reduceIte, Nat.reduceLT, Nat.reduceLeDiff, Nat.reduceEqDiff, Nat.reduceAdd, Nat.reduceSub, Nat.reduceDiv, Nat.reduceMod, Nat.reduceMul, Nat.reduceBEq, Nat.reduceBNe, reduceCtorEq, Int.reduceLT, Int.reduceLE, Int.reduceEq, Int.reduceNe, Int.reduceBEq, Int.reduceBNe, Int.reduceAdd, Int.reduceSub, Int.reduceNeg, Int.reduceToNat]
  obtain ⟨hab, hb, f, rfl, hf⟩ := hpre
  have hl : (cnT f).length = 64 := cellsT_length fun x y => cnP_length _
  by_cases h : a = b
  · subst h
    have e : cntI a a = 1 := by unfold cntI; rw [Nat.sub_self]; rfl
    simp only [go_sem, ↓reduceIte, Nat.reduceLT, Nat.reduceLeDiff, Nat.reduceEqDiff, Nat.reduceAdd, Nat.reduceSub, Nat.reduceDiv, Nat.reduceMod, Nat.reduceMul, Nat.reduceBEq, Nat.reduceBNe, reduceCtorEq, Int.reduceLT, Int.reduceLE, Int.reduceEq, Int.reduceNe, Int.reduceBEq, Int.reduceBNe, Int.reduceAdd, Int.reduceSub, Int.reduceNeg, Int.reduceToNat, beq_self_eq_true]
    rw [e]
    exact ex_le_refl rfl
  · have hne : ((a : Int) == b) = false := by rw [beq_eq_false_iff_ne]; omega
    obtain ⟨m, hm⟩ : ∃ m, b = a + m := ⟨b - a, by omega⟩
    have e : cntI a b = (R5.cntU (m + 1) m : Nat) := by unfold cntI; rw [R5.cnt_step (by omega), show b - a + 1 = m + 1 by omega]; rfl
    rw [e]
    simp only [go_sem, ↓reduceIte, Nat.reduceLT, Nat.reduceLeDiff, Nat.reduceEqDiff, Nat.reduceAdd, Nat.reduceSub, Nat.reduceDiv, Nat.reduceMod, Nat.reduceMul, Nat.reduceBEq, Nat.reduceBNe, reduceCtorEq, Int.reduceLT, Int.reduceLE, Int.reduceEq, Int.reduceNe, Int.reduceBEq, Int.reduceBNe, Int.reduceAdd, Int.reduceSub, Int.reduceNeg, Int.reduceToNat, hne]
    refine vfor [0,1,2,6,7] [] [] m (fun _ => True) (fun i => ⟨[(0,.p (natP a)),(1,.p (natP b)),(2,.p (.ref (cnT f) 0)),(6,.p (natP (R5.cntU (m + 1) i))),(7,.p (natP (a + i)))], []⟩) (by first | rfl | (simp only [go_sem, ↓reduceIte, Nat.reduceLT, Nat.reduceLeDiff, Nat.reduceEqDiff, Nat.reduceAdd, Nat.reduceSub, Nat.reduceDiv, Nat.reduceMod, Nat.reduceMul, Nat.reduceBEq, Nat.reduceBNe, reduceCtorEq, Int.reduceLT, Int.reduceLE, Int.reduceEq, Int.reduceNe, Int.reduceBEq, Int.reduceBNe, Int.reduceAdd, Int.reduceSub, Int.reduceNeg, Int.reduceToNat, R5.cntU_zero]; first | done | rfl)) trivial ?_
    intro i hi _
    by_cases hlt : i < m
    · have hlt' : ((a + i : Nat) : Int) < (b : Int) := by omega
      have ei : ((a + i : Nat) : Int) + 1 = ((a + (i + 1) : Nat) : Int) := by push_cast; omega
      have g1 : (cnT f).getD (a * 8 + (a + i)) default = intP (R5.cnt (i + 1)) := by
        rw [cellsT_get (k := 0) (s := 1) (x := a) (y := a + i) (fun x y => cnP_length _) (by omega) (by omega) (by omega) (by omega), hf a (a + i) (by omega) (by omega) (by omega) (by omega)]
        unfold cntI; rw [show a + i - a + 1 = i + 1 by omega]; rfl
      have g2 : (cnT f).getD ((a + (i + 1)) * 8 + b) default = intP (R5.cnt (m + 1 - 1 - i)) := by
        rw [cellsT_get (k := 0) (s := 1) (x := a + (i + 1)) (y := b) (fun x y => cnP_length _) (by omega) (by omega) (by omega) (by omega), hf (a + (i + 1)) b (by omega) (by omega) (by omega) (by omega)]
        unfold cntI; rw [show b - (a + (i + 1)) + 1 = m + 1 - 1 - i by omega]; rfl
      have hs := R5.cntU_succ (m + 1) i
      have hu : R5.cntU (m + 1) (i + 1) ≤ 429 := by
        have h1 := R5.cntU_mono (m + 1) (show i + 1 ≤ m + 1 - 1 by omega)
        rw [← R5.cnt_step (by omega)] at h1
        have := R5.cnt_le (n := m + 1) (by omega)
        omega
      have hp : (R5.cnt (i + 1) : Int) * (R5.cnt (m + 1 - 1 - i) : Int) = ((R5.cnt (i + 1) * R5.cnt (m + 1 - 1 - i) : Nat) : Int) := by push_cast; rfl
      have hpb : R5.cnt (i + 1) * R5.cnt (m + 1 - 1 - i) ≤ 429 := by omega
      generalize R5.cnt (i + 1) * R5.cnt (m + 1 - 1 - i) = p at *
      simp only [go_sem, ↓reduceIte, Nat.reduceLT, Nat.reduceLeDiff, Nat.reduceEqDiff, Nat.reduceAdd, Nat.reduceSub, Nat.reduceDiv, Nat.reduceMod, Nat.reduceMul, Nat.reduceBEq, Nat.reduceBNe, reduceCtorEq, Int.reduceLT, Int.reduceLE, Int.reduceEq, Int.reduceNe, Int.reduceBEq, Int.reduceBNe, Int.reduceAdd, Int.reduceSub, Int.reduceNeg, Int.reduceToNat, Nat.mul_one, hlt', ei, hl, g1, g2, hp]
      rw [hs]
      push_cast
      (repeat' (first | (rw [InK_i64]; omega) | (rw [InK_u8]; omega) | (rw [InK_u64]; omega) | omega | rfl | apply And.intro))
    · have hlt' : ¬ ((a + i : Nat) : Int) < (b : Int) := by omega
      simp only [go_sem, ↓reduceIte, Nat.reduceLT, Nat.reduceLeDiff, Nat.reduceEqDiff, Nat.reduceAdd, Nat.reduceSub, Nat.reduceDiv, Nat.reduceMod, Nat.reduceMul, Nat.reduceBEq, Nat.reduceBNe, reduceCtorEq, Int.reduceLT, Int.reduceLE, Int.reduceEq, Int.reduceNe, Int.reduceBEq, Int.reduceBNe, Int.reduceAdd, Int.reduceSub, Int.reduceNeg, Int.reduceToNat, hlt']
      obtain rfl : i = m := by omega
      exact ex_le_refl rfl
noncomputable def tab_counts1 : Tab := tabOf (fun p : (Nat) × (Nat) × (List PV) => match p with | (a, b, cs) => [natP a, natP b, .ref cs 0]) (fun p : (Nat) × (Nat) × (List PV) => match p with | (a, b, cs) => a ≤ b ∧ b < 8 ∧ KnownC a b cs) (fun p : (Nat) × (Nat) × (List PV) => match p with | (a, b, cs) => intP (cntI a b))
theorem tab_counts1_eq (a : Nat) (b : Nat) (cs : List PV) : tab_counts1 [natP a, natP b, .ref cs 0] = some (a ≤ b ∧ b < 8 ∧ KnownC a b cs, .p (intP (cntI a b))) := tabOf_eq (enc := fun p : (Nat) × (Nat) × (List PV) => match p with | (a, b, cs) => [natP a, natP b, .ref cs 0]) (pre := fun p : (Nat) × (Nat) × (List PV) => match p with | (a, b, cs) => a ≤ b ∧ b < 8 ∧ KnownC a b cs) (out := fun p : (Nat) × (Nat) × (List PV) => match p with | (a, b, cs) => intP (cntI a b)) (by rintro ⟨a, b, cs⟩ ⟨a', b', cs'⟩ h; simp at h; first | (simp [h]; done) | omega | (simp [h]; omega)) (a, b, cs)
theorem tab_counts1_ok : TabOK Try.prog 97 tab_counts1 := tabOf_ok (by rintro ⟨a, b, cs⟩ h; exact counts1_spec a b cs h)
noncomputable abbrev ent_counts1 : FuncId × List Nat × Tab := (97, [], tab_counts1)
attribute [go_sem] tab_counts1_eq

/-- the table while spans of n kinds are filled -/
def tabIc (n w c : Nat) : Nat → Nat → Int := fun x y => if x ≤ y ∧ y < n ∧ (y - x < w ∨ (y - x = w ∧ x < c)) then cntI x y else 0
theorem tabIc_known (n w c : Nat) (h : c + w < n) : KnownC c (c + w) (cnT (tabIc n w c)) := ⟨_, rfl, fun x y h0 h1 h2 h3 => by unfold tabIc; rw [if_pos ⟨h1, by omega, .inl (by omega)⟩]⟩
theorem tabIc_next (n w c : Nat) (h : c + w < n) : updT (tabIc n w c) c (c + w) (cntI c (c + w)) = tabIc n w (c + 1) := by
  funext x y
  unfold updT tabIc
  by_cases h1 : x = c ∧ y = c + w
  · obtain ⟨rfl, rfl⟩ := h1
    rw [if_pos ⟨rfl, rfl⟩, if_pos ⟨by omega, by omega, .inr ⟨by omega, by omega⟩⟩]
  · rw [if_neg h1]
    by_cases h2 : x ≤ y ∧ y < n ∧ (y - x < w ∨ (y - x = w ∧ x < c))
    · rw [if_pos h2, if_pos ⟨h2.1, h2.2.1, by omega⟩]
    · rw [if_neg h2, if_neg (fun h3 => h2 ⟨h3.1, h3.2.1, by omega⟩)]
theorem tabIc_wide (n w : Nat) : tabIc n w (n - w) = tabIc n (w + 1) 0 := by
  funext x y
  unfold tabIc
  by_cases h2 : x ≤ y ∧ y < n ∧ (y - x < w ∨ (y - x = w ∧ x < n - w))
  · rw [if_pos h2, if_pos ⟨h2.1, h2.2.1, by omega⟩]
  · rw [if_neg h2, if_neg (fun h3 => h2 ⟨h3.1, h3.2.1, by omega⟩)]
def tabWc (n : Nat) : Nat → Nat → Int := fun x y => if x ≤ y ∧ y < n then cntI x y else 0
theorem tabIc_last (n : Nat) : tabIc n n 0 = tabWc n := by
  funext x y
  unfold tabIc tabWc
  by_cases h2 : x ≤ y ∧ y < n
  · rw [if_pos h2, if_pos ⟨h2.1, h2.2, by omega⟩]
  · rw [if_neg h2, if_neg (fun h3 => h2 ⟨h3.1, h3.2.1⟩)]
theorem tabIc_first (n : Nat) : tabIc n 0 0 = fun _ _ => 0 := by
  funext x y
  unfold tabIc
  rw [if_neg (by omega)]

theorem fillC_spec (n : Nat) (h8 : n ≤ 8) : FnO Try.prog 96 [.ptr 5000000 0, .p (natP n), .clo 97 [.ptr 5000000 0]] [(5000000, .cells 107 ((cnT fun _ _ => 0).map .p))]
    (fun x H => x = .p (.tuple []) ∧ H = [(5000000, .cells 107 ((cnT (tabWc n)).map .p))]) := by
  refine fnO_of (T := [ent_counts1]) [5000000] [] (N := 34) (RO := []) (CH := [28, 4018003, 4019005, 4020012, 4021013, 4022017, 4023033, 4029004, 4030011, 4031032]) (KS := [0, 1, 2, 6, 7, 8, 9, 10, 14, 15, 16]) (NS := [5000000]) (fun args w => Try.call96 args w) Try.func96 rfl rfl (by simp) mixed (by kernel_rfl) ⟨tab_counts1_ok, trivial⟩ ?_
  simp only [go_sem, ↓reduceIte, Nat.reduceLT, Nat.reduceLeDiff, Nat.reduceEqDiff, Nat.reduceAdd, Nat.reduceSub, Nat.reduceDiv, Nat.reduceMod, Nat.reduceMul, Nat.reduceBEq, Nat.reduceBNe, reduceCtorEq, Int.reduceLT, Int.reduceLE, Int.reduceEq, Int.reduceNe, Int.reduceBEq, Int.reduceBNe, Int.reduceAdd, Int.reduceSub, Int.reduceNeg, Int.reduceToNat]
  refine vfor [0,1,2,8,9] [5000000] [] n (fun _ => True) (fun w => ⟨[(0,.ptr 5000000 0),(1,.p (natP n)),(2,.clo 97 [.ptr 5000000 0]),(8,.p (natP n)),(9,.p (natP w))], [(5000000,.cells 107 ((cnT (tabIc n w 0)).map .p))]⟩) (by rw [tabIc_first]; simp only [go_sem, ↓reduceIte, Nat.reduceLT, Nat.reduceLeDiff, Nat.reduceEqDiff, Nat.reduceAdd, Nat.reduceSub, Nat.reduceDiv, Nat.reduceMod, Nat.reduceMul, Nat.reduceBEq, Nat.reduceBNe, reduceCtorEq, Int.reduceLT, Int.reduceLE, Int.reduceEq, Int.reduceNe, Int.reduceBEq, Int.reduceBNe, Int.reduceAdd, Int.reduceSub, Int.reduceNeg, Int.reduceToNat]; first | done | rfl) trivial ?_
  intro w hw _
  by_cases hlt : w < n
  · simp only [go_sem, ↓reduceIte, Nat.reduceLT, Nat.reduceLeDiff, Nat.reduceEqDiff, Nat.reduceAdd, Nat.reduceSub, Nat.reduceDiv, Nat.reduceMod, Nat.reduceMul, Nat.reduceBEq, Nat.reduceBNe, reduceCtorEq, Int.reduceLT, Int.reduceLE, Int.reduceEq, Int.reduceNe, Int.reduceBEq, Int.reduceBNe, Int.reduceAdd, Int.reduceSub, Int.reduceNeg, Int.reduceToNat, hlt]
    (repeat with_reducible refine And.intro (by (repeat' with_reducible refine And.intro ?_ ?_) <;> first | with_reducible assumption | omega | (simp only [InK_i64, InK_u64, InK_u8]; omega) | (unfold sz; omega) | exact True.intro) ?_)
    have ew : (n : Int) - w = ((n - w : Nat) : Int) := by omega
    rw [ew]
    refine vfor [0,1,2,6,8,9,14,15] [5000000] [] (n - w) (fun _ => True) (fun c => ⟨[(0,.ptr 5000000 0),(1,.p (natP n)),(2,.clo 97 [.ptr 5000000 0]),(6,.p (natP w)),(8,.p (natP n)),(9,.p (natP w)),(14,.p (natP (n - w))),(15,.p (natP c))], [(5000000,.cells 107 ((cnT (tabIc n w c)).map .p))]⟩) (by first | rfl | (simp only [go_sem, ↓reduceIte, Nat.reduceLT, Nat.reduceLeDiff, Nat.reduceEqDiff, Nat.reduceAdd, Nat.reduceSub, Nat.reduceDiv, Nat.reduceMod, Nat.reduceMul, Nat.reduceBEq, Nat.reduceBNe, reduceCtorEq, Int.reduceLT, Int.reduceLE, Int.reduceEq, Int.reduceNe, Int.reduceBEq, Int.reduceBNe, Int.reduceAdd, Int.reduceSub, Int.reduceNeg, Int.reduceToNat]; first | done | rfl)) trivial ?_
    intro c hc _
    by_cases hlc : c < n - w
    · have ec : ((c : Int) + (w : Int)) = ((c + w : Nat) : Int) := by push_cast; rfl
      have hl : (cnT (tabIc n w c)).length = 64 := cellsT_length fun x y => cnP_length _
      have hK := tabIc_known n w c (by omega)
      have ho : c * 8 + (c + w) ≤ 63 := by omega
      have hset := cellsT_setA (s := 1) (c := cnP) cnP_length (f := tabIc n w c) (x := c) (y := c + w) (o := c * 8 + (c + w)) (by omega) (by omega) (by omega) (cntI c (c + w))
      rw [tabIc_next n w c (by omega)] at hset
      simp only [go_sem, ↓reduceIte, Nat.reduceLT, Nat.reduceLeDiff, Nat.reduceEqDiff, Nat.reduceAdd, Nat.reduceSub, Nat.reduceDiv, Nat.reduceMod, Nat.reduceMul, Nat.reduceBEq, Nat.reduceBNe, reduceCtorEq, Int.reduceLT, Int.reduceLE, Int.reduceEq, Int.reduceNe, Int.reduceBEq, Int.reduceBNe, Int.reduceAdd, Int.reduceSub, Int.reduceNeg, Int.reduceToNat, Nat.mul_one, false_and, hlc, ec, pvs_map, List.length_map, hl, ho]
      refine ⟨by rw [InK_i64]; omega, by omega, by omega, by rw [InK_i64]; omega, ⟨by omega, by omega, hK⟩, by rw [InK_i64]; omega, ?_⟩
      rw [← hset]
      rfl
    · simp only [go_sem, ↓reduceIte, Nat.reduceLT, Nat.reduceLeDiff, Nat.reduceEqDiff, Nat.reduceAdd, Nat.reduceSub, Nat.reduceDiv, Nat.reduceMod, Nat.reduceMul, Nat.reduceBEq, Nat.reduceBNe, reduceCtorEq, Int.reduceLT, Int.reduceLE, Int.reduceEq, Int.reduceNe, Int.reduceBEq, Int.reduceBNe, Int.reduceAdd, Int.reduceSub, Int.reduceNeg, Int.reduceToNat, hlc]
      obtain rfl : c = n - w := by omega
      rw [tabIc_wide]
      (repeat' (first | (rw [InK_i64]; omega) | (rw [InK_u8]; omega) | (rw [InK_u64]; omega) | omega | rfl | apply And.intro))
  · simp only [go_sem, ↓reduceIte, Nat.reduceLT, Nat.reduceLeDiff, Nat.reduceEqDiff, Nat.reduceAdd, Nat.reduceSub, Nat.reduceDiv, Nat.reduceMod, Nat.reduceMul, Nat.reduceBEq, Nat.reduceBNe, reduceCtorEq, Int.reduceLT, Int.reduceLE, Int.reduceEq, Int.reduceNe, Int.reduceBEq, Int.reduceBNe, Int.reduceAdd, Int.reduceSub, Int.reduceNeg, Int.reduceToNat, hlt]
    obtain rfl : w = n := by omega
    rw [tabIc_last]
    exact ⟨_, Le.refl _, rfl, rfl⟩

theorem zero_cellsC (n : Nat) (hn : n = 64) : (List.replicate n (Value.int .i64 0)).map (fun v => AV.p (.val v)) = (cnT fun _ _ => 0).map .p := by subst hn; rfl

theorem counts_spec (n : Nat) (hpre : n ≤ 8) : Ret Try.prog 71 [natP n] (.ref (cnT (tabWc n)) 0) := by
  refine fn_of (T := []) (N := 7) (RO := []) (CH := []) (KS := [0, 2, 3]) (NS := [2, 3]) (fun args w => Try.call71 args w) Try.func71 rfl rfl (by simp) mixed (by kernel_rfl) trivial ?_
  simp only [go_sem, ↓reduceIte, Nat.reduceLT, Nat.reduceLeDiff, Nat.reduceEqDiff, Nat.reduceAdd, Nat.reduceSub, Nat.reduceDiv, Nat.reduceMod, Nat.reduceMul, Nat.reduceBEq, Nat.reduceBNe, reduceCtorEq, Int.reduceLT, Int.reduceLE, Int.reduceEq, Int.reduceNe, Int.reduceBEq, Int.reduceBNe, Int.reduceAdd, Int.reduceSub, Int.reduceNeg, Int.reduceToNat, zero_one, zero_cellsC]
  refine vcallO [3] 10000 (fillC_spec n hpre) (by first | rfl | (simp only [go_sem, seval, AV.mapN, AV.mapNL, Ob.mapN, mapNL_p, cnx, canH, canH.canH1, lowE, lowH, lowL, lowN, AV.allN, AV.allNL, Ob.allN, allNL_p, okNm, okKey, okH, bkp, bk, bkH, lof_snoc_int, List.getD_cons_zero, List.getD_cons_succ]; first | done | rfl) | (simp [AV.mapN, AV.mapNL, Ob.mapN, mapNL_p, cnx, canH, canH.canH1, St.h, lowE, lowH, lowL, lowN, AV.allN, AV.allNL, Ob.allN, allNL_p, okNm, okKey, okH, bkp, bk, bkH]; done)) (by first | rfl | (simp only [go_sem, seval, AV.mapN, AV.mapNL, Ob.mapN, mapNL_p, cnx, canH, canH.canH1, lowE, lowH, lowL, lowN, AV.allN, AV.allNL, Ob.allN, allNL_p, okNm, okKey, okH, bkp, bk, bkH, lof_snoc_int, List.getD_cons_zero, List.getD_cons_succ]; first | done | rfl) | (simp [AV.mapN, AV.mapNL, Ob.mapN, mapNL_p, cnx, canH, canH.canH1, St.h, lowE, lowH, lowL, lowN, AV.allN, AV.allNL, Ob.allN, allNL_p, okNm, okKey, okH, bkp, bk, bkH]; done)) (by omega) (by first | rfl | (simp only [go_sem, seval, AV.mapN, AV.mapNL, Ob.mapN, mapNL_p, cnx, canH, canH.canH1, lowE, lowH, lowL, lowN, AV.allN, AV.allNL, Ob.allN, allNL_p, okNm, okKey, okH, bkp, bk, bkH, lof_snoc_int, List.getD_cons_zero, List.getD_cons_succ]; first | done | rfl) | (simp [AV.mapN, AV.mapNL, Ob.mapN, mapNL_p, cnx, canH, canH.canH1, St.h, lowE, lowH, lowL, lowN, AV.allN, AV.allNL, Ob.allN, allNL_p, okNm, okKey, okH, bkp, bk, bkH]; done)) ?_
  rintro x H' ⟨rfl, rfl⟩
  refine ⟨(by first | rfl | (simp only [go_sem, seval, AV.mapN, AV.mapNL, Ob.mapN, mapNL_p, cnx, canH, canH.canH1, lowE, lowH, lowL, lowN, AV.allN, AV.allNL, Ob.allN, allNL_p, okNm, okKey, okH, bkp, bk, bkH, lof_snoc_int, List.getD_cons_zero, List.getD_cons_succ]; first | done | rfl) | (simp [AV.mapN, AV.mapNL, Ob.mapN, mapNL_p, cnx, canH, canH.canH1, St.h, lowE, lowH, lowL, lowN, AV.allN, AV.allNL, Ob.allN, allNL_p, okNm, okKey, okH, bkp, bk, bkH]; done)), ?_⟩
  simp only [go_sem, ↓reduceIte, Nat.reduceLT, Nat.reduceLeDiff, Nat.reduceEqDiff, Nat.reduceAdd, Nat.reduceSub, Nat.reduceDiv, Nat.reduceMod, Nat.reduceMul, Nat.reduceBEq, Nat.reduceBNe, reduceCtorEq, Int.reduceLT, Int.reduceLE, Int.reduceEq, Int.reduceNe, Int.reduceBEq, Int.reduceBNe, Int.reduceAdd, Int.reduceSub, Int.reduceNeg, Int.reduceToNat, St.back, AV.mapN, AV.mapNL, Ob.mapN, mapNL_p, bk, bkp, bkH, pvs_map]
  exact ex_le_refl rfl
noncomputable def tab_counts : Tab := tabOf (fun p : (Nat) => match p with | n => [natP n]) (fun p : (Nat) => match p with | n => n ≤ 8) (fun p : (Nat) => match p with | n => .ref (cnT (tabWc n)) 0)
theorem tab_counts_eq (n : Nat) : tab_counts [natP n] = some (n ≤ 8, .p (.ref (cnT (tabWc n)) 0)) := tabOf_eq (enc := fun p : (Nat) => match p with | n => [natP n]) (pre := fun p : (Nat) => match p with | n => n ≤ 8) (out := fun p : (Nat) => match p with | n => .ref (cnT (tabWc n)) 0) (by rintro n n' h; simp at h; first | (simp [h]; done) | omega | (simp [h]; omega)) (n)
theorem tab_counts_ok : TabOK Try.prog 71 tab_counts := tabOf_ok (by rintro n h; exact counts_spec n h)
noncomputable abbrev ent_counts : FuncId × List Nat × Tab := (71, [], tab_counts)
attribute [go_sem] tab_counts_eq

/-- how many trees -/
def treesV (k : Int) : Int := if 1 ≤ k ∧ k ≤ 8 then (R5.cnt k.toNat : Int) else 0
def treesE (k : Int) : Int := if 1 ≤ k ∧ k ≤ 8 then 0 else 1
theorem inB_18 (k : Int) : inB k 1 8 = decide (1 ≤ k ∧ k ≤ 8) := by unfold inB; rw [Bool.decide_and]

theorem Trees5_spec (k : Int) (hpre : True) : Ret Try.prog 31 [intP k] (.tuple [intP (treesV k), errP (treesE k)]) := by
  refine fn_of (T := [ent_within, ent_counts]) (N := 15) (RO := []) (CH := []) (KS := [0, 2, 3, 6]) (NS := []) (fun args w => Try.call31 args w) Try.func31 rfl rfl (by simp) mixed (by kernel_rfl) ⟨tab_within_ok, tab_counts_ok, trivial⟩ ?_
  simp only [go_sem, ↓reduceIte, Nat.reduceLT, Nat.reduceLeDiff, Nat.reduceEqDiff, Nat.reduceAdd, Nat.reduceSub, Nat.reduceDiv, Nat.reduceMod, Nat.reduceMul, Nat.reduceBEq, Nat.reduceBNe, reduceCtorEq, Int.reduceLT, Int.reduceLE, Int.reduceEq, Int.reduceNe, Int.reduceBEq, Int.reduceBNe, Int.reduceAdd, Int.reduceSub, Int.reduceNeg, Int.reduceToNat]
  rw [inB_18]
  unfold treesV treesE
  by_cases h : 1 ≤ k ∧ k ≤ 8
  · obtain ⟨n, rfl⟩ : ∃ n : Nat, k = n := ⟨k.toNat, by omega⟩
    have hl : (cnT (tabWc n)).length = 64 := cellsT_length fun x y => cnP_length _
    have en : ((n : Int) - 1).toNat = n - 1 := by omega
    have g : (cnT (tabWc n)).getD (n - 1) default = intP (R5.cnt n) := by
      rw [cellsT_get (k := 0) (s := 1) (x := 0) (y := n - 1) (fun x y => cnP_length _) (by omega) (by omega) (by omega) (by omega)]
      unfold tabWc cntI; rw [if_pos ⟨by omega, by omega⟩, show n - 1 - 0 + 1 = n by omega]; rfl
    rw [if_pos h, if_pos h]
    simp only [go_sem, ↓reduceIte, Nat.reduceLT, Nat.reduceLeDiff, Nat.reduceEqDiff, Nat.reduceAdd, Nat.reduceSub, Nat.reduceDiv, Nat.reduceMod, Nat.reduceMul, Nat.reduceBEq, Nat.reduceBNe, reduceCtorEq, Int.reduceLT, Int.reduceLE, Int.reduceEq, Int.reduceNe, Int.reduceBEq, Int.reduceBNe, Int.reduceAdd, Int.reduceSub, Int.reduceNeg, Int.reduceToNat, Nat.mul_one, h, en, hl, g]
    (repeat with_reducible refine And.intro (by (repeat' with_reducible refine And.intro ?_ ?_) <;> first | with_reducible assumption | omega | (simp only [InK_i64, InK_u64, InK_u8]; omega) | (unfold sz; omega) | exact True.intro) ?_)
    exact ex_le_refl rfl
  · rw [if_neg h, if_neg h]
    simp only [go_sem, ↓reduceIte, Nat.reduceLT, Nat.reduceLeDiff, Nat.reduceEqDiff, Nat.reduceAdd, Nat.reduceSub, Nat.reduceDiv, Nat.reduceMod, Nat.reduceMul, Nat.reduceBEq, Nat.reduceBNe, reduceCtorEq, Int.reduceLT, Int.reduceLE, Int.reduceEq, Int.reduceNe, Int.reduceBEq, Int.reduceBNe, Int.reduceAdd, Int.reduceSub, Int.reduceNeg, Int.reduceToNat, h]
    exact ex_le_refl rfl
noncomputable def tab_Trees5 : Tab := tabOf (fun p : (Int) => match p with | k => [intP k]) (fun p : (Int) => match p with | k => True) (fun p : (Int) => match p with | k => .tuple [intP (treesV k), errP (treesE k)])
theorem tab_Trees5_eq (k : Int) : tab_Trees5 [intP k] = some (True, .p (.tuple [intP (treesV k), errP (treesE k)])) := tabOf_eq (enc := fun p : (Int) => match p with | k => [intP k]) (pre := fun p : (Int) => match p with | k => True) (out := fun p : (Int) => match p with | k => .tuple [intP (treesV k), errP (treesE k)]) (by rintro k k' h; simp at h; first | (simp [h]; done) | omega | (simp [h]; omega)) (k)
theorem tab_Trees5_ok : TabOK Try.prog 31 tab_Trees5 := tabOf_ok (by rintro k h; exact Trees5_spec k h)
noncomputable abbrev ent_Trees5 : FuncId × List Nat × Tab := (31, [], tab_Trees5)
attribute [go_sem] tab_Trees5_eq
end Go.V

namespace Go.V
open Go.Proofs
set_option maxRecDepth 10000
set_option maxHeartbeats 2000000

abbrev cloT (N n1 n2 : Nat) : AV := .clo 73 [.p (.ref [.ref (cnT (tabWc N)) 0] 0), .ptr n1 0, .ptr n2 0]
abbrev HT (N : Nat) (X : List Int) (m : Nat) : List (Nat × Ob) := [(5000000, .cells 22 [.sl m]), (5000001, .cells 83 [cloT N 5000000 5000001]), (m, .vec 3 1 (lof intP X))]
theorem putT_spec (N : Nat) (hN : N ≤ 8) : ∀ n, 1 ≤ n → ∀ a m X, a + n ≤ N → m < R5.cnt n → X.length + n ≤ 1000 →
    FnO Try.prog 73 [.p (natP a), .p (natP (a + n - 1)), .p (natP m), .p (.ref [.ref (cnT (tabWc N)) 0] 0), .ptr 5000000 0, .ptr 5000001 0] (HT N X 5000002)
      (fun x H => x = .p (.tuple []) ∧ H = HT N (X ++ (R5.nth n m).enc a) 44) := by
  intro n
  induction n using Nat.strongRecOn with
  | _ n ih =>
  intro h1 a m X ha hm hX
  have hl : (cnT (tabWc N)).length = 64 := cellsT_length fun x y => cnP_length _
  have hc8 := R5.cnt_le (n := n) (by omega)
  have hnk := R5.nth_kinds h1 hm
  by_cases hn : n = 1
  · subst hn
    refine fnO_of (T := []) [5000000, 5000001, 5000002] [.ren 5000002 44] (N := 60) (RO := [43]) (CH := []) (KS := [0, 1, 2, 3, 4, 5, 9, 10, 11, 15, 37]) (NS := [44, 5000000, 5000001, 5000002]) (fun args w => Try.call73 args w) Try.func73 rfl rfl (by simp) mixed (by kernel_rfl) trivial ?_
    have e : ¬ ((a : Int) < ((a + 1 - 1 : Nat) : Int)) := by omega
    rw [R5.nth_one]
    simp only [go_sem, ↓reduceIte, Nat.reduceLT, Nat.reduceLeDiff, Nat.reduceEqDiff, Nat.reduceAdd, Nat.reduceSub, Nat.reduceDiv, Nat.reduceMod, Nat.reduceMul, Nat.reduceBEq, Nat.reduceBNe, reduceCtorEq, Int.reduceLT, Int.reduceLE, Int.reduceEq, Int.reduceNe, Int.reduceBEq, Int.reduceBNe, Int.reduceAdd, Int.reduceSub, Int.reduceNeg, Int.reduceToNat]
    refine vfor [0,1,2,3,4,5,9] [5000000,5000001,5000002] [] 0 (fun _ => True) (fun i => ⟨[(0,.p (natP a)),(1,.p (natP (a + 1 - 1))),(2,.p (natP m)),(3,.p (.ref [.ref (cnT (tabWc N)) 0] 0)),(4,.ptr 5000000 0),(5,.ptr 5000001 0),(9,.p (natP a))], HT N X 5000002⟩) (by first | rfl | (simp only [go_sem, ↓reduceIte, Nat.reduceLT, Nat.reduceLeDiff, Nat.reduceEqDiff, Nat.reduceAdd, Nat.reduceSub, Nat.reduceDiv, Nat.reduceMod, Nat.reduceMul, Nat.reduceBEq, Nat.reduceBNe, reduceCtorEq, Int.reduceLT, Int.reduceLE, Int.reduceEq, Int.reduceNe, Int.reduceBEq, Int.reduceBNe, Int.reduceAdd, Int.reduceSub, Int.reduceNeg, Int.reduceToNat]; first | done | rfl)) trivial ?_
    intro i hi _
    simp only [go_sem, ↓reduceIte, Nat.reduceLT, Nat.reduceLeDiff, Nat.reduceEqDiff, Nat.reduceAdd, Nat.reduceSub, Nat.reduceDiv, Nat.reduceMod, Nat.reduceMul, Nat.reduceBEq, Nat.reduceBNe, reduceCtorEq, Int.reduceLT, Int.reduceLE, Int.reduceEq, Int.reduceNe, Int.reduceBEq, Int.reduceBNe, Int.reduceAdd, Int.reduceSub, Int.reduceNeg, Int.reduceToNat, e]
    exact ⟨_, Le.refl _, rfl, by rw [show R5.T.leaf.enc a = [] from rfl, List.append_nil]⟩
  · refine fnO_of (T := []) [5000000, 5000001, 30044] [.ren 30044 44] (N := 60) (RO := [43]) (CH := [45, 52, 3500008, 3500009]) (KS := [0, 1, 2, 3, 4, 5, 9, 10, 11, 15, 37]) (NS := [44, 10044, 30044, 5000000, 5000001, 5000002]) (fun args w => Try.call73 args w) Try.func73 rfl rfl (by simp) mixed (by kernel_rfl) trivial ?_
    simp only [go_sem, ↓reduceIte, Nat.reduceLT, Nat.reduceLeDiff, Nat.reduceEqDiff, Nat.reduceAdd, Nat.reduceSub, Nat.reduceDiv, Nat.reduceMod, Nat.reduceMul, Nat.reduceBEq, Nat.reduceBNe, reduceCtorEq, Int.reduceLT, Int.reduceLE, Int.reduceEq, Int.reduceNe, Int.reduceBEq, Int.reduceBNe, Int.reduceAdd, Int.reduceSub, Int.reduceNeg, Int.reduceToNat]
    refine vfor [0,1,2,3,4,5,9] [5000000,5000001,5000002] [] (n - 1) (fun k => R5.cntU n k ≤ m) (fun k => ⟨[(0,.p (natP a)),(1,.p (natP (a + n - 1))),(2,.p (natP (m - R5.cntU n k))),(3,.p (.ref [.ref (cnT (tabWc N)) 0] 0)),(4,.ptr 5000000 0),(5,.ptr 5000001 0),(9,.p (natP (a + k)))], HT N X 5000002⟩) (by first | rfl | (simp only [go_sem, ↓reduceIte, Nat.reduceLT, Nat.reduceLeDiff, Nat.reduceEqDiff, Nat.reduceAdd, Nat.reduceSub, Nat.reduceDiv, Nat.reduceMod, Nat.reduceMul, Nat.reduceBEq, Nat.reduceBNe, reduceCtorEq, Int.reduceLT, Int.reduceLE, Int.reduceEq, Int.reduceNe, Int.reduceBEq, Int.reduceBNe, Int.reduceAdd, Int.reduceSub, Int.reduceNeg, Int.reduceToNat]; first | done | rfl)) (by rw [R5.cntU_zero]; omega) ?_
    intro k hk hI
    have hk2 : k < n - 1 := by
      rcases Nat.lt_or_ge k (n - 1) with h | h
      · exact h
      · have : k = n - 1 := by omega
        rw [this, ← R5.cnt_step (by omega)] at hI; omega
    have e : ((a + k : Nat) : Int) < ((a + n - 1 : Nat) : Int) := by omega
    have ei : ((a + k : Nat) : Int) + 1 = ((a + (k + 1) : Nat) : Int) := by push_cast; omega
    have g1 : (cnT (tabWc N)).getD ((a + (k + 1)) * 8 + (a + n - 1)) default = natP (R5.cnt (n - 1 - k)) := by
      rw [cellsT_get (k := 0) (s := 1) (x := a + (k + 1)) (y := a + n - 1) (fun x y => cnP_length _) (by omega) (by omega) (by omega) (by omega)]
      unfold tabWc cntI; rw [if_pos ⟨by omega, by omega⟩, show a + n - 1 - (a + (k + 1)) + 1 = n - 1 - k by omega]; rfl
    have g2 : (cnT (tabWc N)).getD (a * 8 + (a + k)) default = natP (R5.cnt (k + 1)) := by
      rw [cellsT_get (k := 0) (s := 1) (x := a) (y := a + k) (fun x y => cnP_length _) (by omega) (by omega) (by omega) (by omega)]
      unfold tabWc cntI; rw [if_pos ⟨by omega, by omega⟩, show a + k - a + 1 = k + 1 by omega]; rfl
    have hp : (R5.cnt (k + 1) : Int) * (R5.cnt (n - 1 - k) : Int) = ((R5.cnt (k + 1) * R5.cnt (n - 1 - k) : Nat) : Int) := by push_cast; rfl
    have hs := R5.cntU_succ n k
    have hu : R5.cntU n (k + 1) ≤ 429 := by
      have h1 := R5.cntU_mono n (show k + 1 ≤ n - 1 by omega)
      rw [← R5.cnt_step (by omega)] at h1
      omega
    by_cases hge : R5.cntU n (k + 1) ≤ m
    · have hg : ((R5.cnt (k + 1) * R5.cnt (n - 1 - k) : Nat) : Int) ≤ ((m - R5.cntU n k : Nat) : Int) := by omega
      have hsub : ((m - R5.cntU n k : Nat) : Int) - ((R5.cnt (k + 1) * R5.cnt (n - 1 - k) : Nat) : Int) = ((m - R5.cntU n (k + 1) : Nat) : Int) := by omega
      generalize R5.cnt (k + 1) * R5.cnt (n - 1 - k) = p at *
      simp only [go_sem, ↓reduceIte, Nat.reduceLT, Nat.reduceLeDiff, Nat.reduceEqDiff, Nat.reduceAdd, Nat.reduceSub, Nat.reduceDiv, Nat.reduceMod, Nat.reduceMul, Nat.reduceBEq, Nat.reduceBNe, reduceCtorEq, Int.reduceLT, Int.reduceLE, Int.reduceEq, Int.reduceNe, Int.reduceBEq, Int.reduceBNe, Int.reduceAdd, Int.reduceSub, Int.reduceNeg, Int.reduceToNat, Nat.mul_one, e, ei, hl, g1, g2, hp, hg, hsub]
      (repeat' (first | (rw [InK_i64]; omega) | (rw [InK_u8]; omega) | (rw [InK_u64]; omega) | omega | rfl | apply And.intro))
    · have hg : ¬ ((R5.cnt (k + 1) * R5.cnt (n - 1 - k) : Nat) : Int) ≤ ((m - R5.cntU n k : Nat) : Int) := by omega
      have hst := R5.nth_step (n := n) (m := m) (k := k) (by omega) hk2 hI (by omega)
      have hc1 := R5.cnt_pos (n := n - 1 - k) (by omega)
      have hd1 : (m - R5.cntU n k) / R5.cnt (n - 1 - k) < R5.cnt (k + 1) := Nat.div_lt_of_lt_mul (by rw [Nat.mul_comm]; omega)
      have hd2 : (m - R5.cntU n k) % R5.cnt (n - 1 - k) < R5.cnt (n - 1 - k) := Nat.mod_lt _ hc1
      have hpb : R5.cnt (k + 1) * R5.cnt (n - 1 - k) ≤ 429 := by omega
      have hcb : R5.cnt (n - 1 - k) ≤ 429 := R5.cnt_le (by omega)
      have hk1 := R5.nth_kinds (n := k + 1) (by omega) hd1
      rw [hst, R5.enc_head, hk1]
      have i1 := ih (k + 1) (by omega) (by omega) a ((m - R5.cntU n k) / R5.cnt (n - 1 - k)) (X ++ [((a + k : Nat) : Int)]) (by omega) hd1 (by simp; omega)
      have i2 := ih (n - 1 - k) (by omega) (by omega) (a + (k + 1)) ((m - R5.cntU n k) % R5.cnt (n - 1 - k)) (X ++ [((a + k : Nat) : Int)] ++ (R5.nth (k + 1) ((m - R5.cntU n k) / R5.cnt (n - 1 - k))).enc a) (by omega) hd2 (by simp [R5.T.enc_length, hk1]; omega)
      rw [show a + (k + 1) - 1 = a + k by omega] at i1 ⊢
      rw [show a + (k + 1) + (n - 1 - k) - 1 = a + n - 1 by omega] at i2
      have q1 : ((m - R5.cntU n k : Nat) : Int) / (R5.cnt (n - 1 - k) : Int) = (((m - R5.cntU n k) / R5.cnt (n - 1 - k) : Nat) : Int) := (Int.natCast_ediv _ _).symm
      have q2 : ((m - R5.cntU n k : Nat) : Int) % (R5.cnt (n - 1 - k) : Int) = (((m - R5.cntU n k) % R5.cnt (n - 1 - k) : Nat) : Int) := (Int.natCast_emod _ _).symm
      generalize (R5.nth (k + 1) ((m - R5.cntU n k) / R5.cnt (n - 1 - k))).enc a = el at *
      generalize (R5.nth (n - 1 - k) ((m - R5.cntU n k) % R5.cnt (n - 1 - k))).enc (a + (k + 1)) = er at *
      generalize R5.cnt (k + 1) * R5.cnt (n - 1 - k) = p at *
      simp only [go_sem, ↓reduceIte, Nat.reduceLT, Nat.reduceLeDiff, Nat.reduceEqDiff, Nat.reduceAdd, Nat.reduceSub, Nat.reduceDiv, Nat.reduceMod, Nat.reduceMul, Nat.reduceBEq, Nat.reduceBNe, reduceCtorEq, Int.reduceLT, Int.reduceLE, Int.reduceEq, Int.reduceNe, Int.reduceBEq, Int.reduceBNe, Int.reduceAdd, Int.reduceSub, Int.reduceNeg, Int.reduceToNat, Nat.mul_one, e, ei, hl, g1, g2, hp, hg, q1, q2]
      (repeat with_reducible refine And.intro (by (repeat' with_reducible refine And.intro ?_ ?_) <;> first | with_reducible assumption | omega | (simp only [InK_i64, InK_u64, InK_u8]; omega) | (unfold sz; omega) | exact True.intro) ?_)
      refine vcallO [5000000, 5000001, 44] 10000 i1 (by first | rfl | (simp only [go_sem, seval, AV.mapN, AV.mapNL, Ob.mapN, mapNL_p, cnx, canH, canH.canH1, lowE, lowH, lowL, lowN, AV.allN, AV.allNL, Ob.allN, allNL_p, okNm, okKey, okH, bkp, bk, bkH, lof_snoc_int, List.getD_cons_zero, List.getD_cons_succ]; first | done | rfl) | (simp [AV.mapN, AV.mapNL, Ob.mapN, mapNL_p, cnx, canH, canH.canH1, St.h, lowE, lowH, lowL, lowN, AV.allN, AV.allNL, Ob.allN, allNL_p, okNm, okKey, okH, bkp, bk, bkH]; done)) (by first | rfl | (simp only [go_sem, seval, AV.mapN, AV.mapNL, Ob.mapN, mapNL_p, cnx, canH, canH.canH1, lowE, lowH, lowL, lowN, AV.allN, AV.allNL, Ob.allN, allNL_p, okNm, okKey, okH, bkp, bk, bkH, lof_snoc_int, List.getD_cons_zero, List.getD_cons_succ]; first | done | rfl) | (simp [AV.mapN, AV.mapNL, Ob.mapN, mapNL_p, cnx, canH, canH.canH1, St.h, lowE, lowH, lowL, lowN, AV.allN, AV.allNL, Ob.allN, allNL_p, okNm, okKey, okH, bkp, bk, bkH]; done)) (by omega) (by first | rfl | (simp only [go_sem, seval, AV.mapN, AV.mapNL, Ob.mapN, mapNL_p, cnx, canH, canH.canH1, lowE, lowH, lowL, lowN, AV.allN, AV.allNL, Ob.allN, allNL_p, okNm, okKey, okH, bkp, bk, bkH, lof_snoc_int, List.getD_cons_zero, List.getD_cons_succ]; first | done | rfl) | (simp [AV.mapN, AV.mapNL, Ob.mapN, mapNL_p, cnx, canH, canH.canH1, St.h, lowE, lowH, lowL, lowN, AV.allN, AV.allNL, Ob.allN, allNL_p, okNm, okKey, okH, bkp, bk, bkH]; done)) ?_
      rintro x H' ⟨rfl, rfl⟩
      refine ⟨(by first | rfl | (simp only [go_sem, seval, AV.mapN, AV.mapNL, Ob.mapN, mapNL_p, cnx, canH, canH.canH1, lowE, lowH, lowL, lowN, AV.allN, AV.allNL, Ob.allN, allNL_p, okNm, okKey, okH, bkp, bk, bkH, lof_snoc_int, List.getD_cons_zero, List.getD_cons_succ]; first | done | rfl) | (simp [AV.mapN, AV.mapNL, Ob.mapN, mapNL_p, cnx, canH, canH.canH1, St.h, lowE, lowH, lowL, lowN, AV.allN, AV.allNL, Ob.allN, allNL_p, okNm, okKey, okH, bkp, bk, bkH]; done)), ?_⟩
      simp only [go_sem, ↓reduceIte, Nat.reduceLT, Nat.reduceLeDiff, Nat.reduceEqDiff, Nat.reduceAdd, Nat.reduceSub, Nat.reduceDiv, Nat.reduceMod, Nat.reduceMul, Nat.reduceBEq, Nat.reduceBNe, reduceCtorEq, Int.reduceLT, Int.reduceLE, Int.reduceEq, Int.reduceNe, Int.reduceBEq, Int.reduceBNe, Int.reduceAdd, Int.reduceSub, Int.reduceNeg, Int.reduceToNat, St.back, AV.mapN, AV.mapNL, Ob.mapN, mapNL_p, bk, bkp, bkH, ei, q1, q2]
      (repeat with_reducible refine And.intro (by (repeat' with_reducible refine And.intro ?_ ?_) <;> first | with_reducible assumption | omega | (simp only [InK_i64, InK_u64, InK_u8]; omega) | (unfold sz; omega) | exact True.intro) ?_)
      refine vcallO [5000000, 5000001, 10044] 30000 i2 (by first | rfl | (simp only [go_sem, seval, AV.mapN, AV.mapNL, Ob.mapN, mapNL_p, cnx, canH, canH.canH1, lowE, lowH, lowL, lowN, AV.allN, AV.allNL, Ob.allN, allNL_p, okNm, okKey, okH, bkp, bk, bkH, lof_snoc_int, List.getD_cons_zero, List.getD_cons_succ]; first | done | rfl) | (simp [AV.mapN, AV.mapNL, Ob.mapN, mapNL_p, cnx, canH, canH.canH1, St.h, lowE, lowH, lowL, lowN, AV.allN, AV.allNL, Ob.allN, allNL_p, okNm, okKey, okH, bkp, bk, bkH]; done)) (by first | rfl | (simp only [go_sem, seval, AV.mapN, AV.mapNL, Ob.mapN, mapNL_p, cnx, canH, canH.canH1, lowE, lowH, lowL, lowN, AV.allN, AV.allNL, Ob.allN, allNL_p, okNm, okKey, okH, bkp, bk, bkH, lof_snoc_int, List.getD_cons_zero, List.getD_cons_succ]; first | done | rfl) | (simp [AV.mapN, AV.mapNL, Ob.mapN, mapNL_p, cnx, canH, canH.canH1, St.h, lowE, lowH, lowL, lowN, AV.allN, AV.allNL, Ob.allN, allNL_p, okNm, okKey, okH, bkp, bk, bkH]; done)) (by omega) (by first | rfl | (simp only [go_sem, seval, AV.mapN, AV.mapNL, Ob.mapN, mapNL_p, cnx, canH, canH.canH1, lowE, lowH, lowL, lowN, AV.allN, AV.allNL, Ob.allN, allNL_p, okNm, okKey, okH, bkp, bk, bkH, lof_snoc_int, List.getD_cons_zero, List.getD_cons_succ]; first | done | rfl) | (simp [AV.mapN, AV.mapNL, Ob.mapN, mapNL_p, cnx, canH, canH.canH1, St.h, lowE, lowH, lowL, lowN, AV.allN, AV.allNL, Ob.allN, allNL_p, okNm, okKey, okH, bkp, bk, bkH]; done)) ?_
      rintro x H' ⟨rfl, rfl⟩
      refine ⟨(by first | rfl | (simp only [go_sem, seval, AV.mapN, AV.mapNL, Ob.mapN, mapNL_p, cnx, canH, canH.canH1, lowE, lowH, lowL, lowN, AV.allN, AV.allNL, Ob.allN, allNL_p, okNm, okKey, okH, bkp, bk, bkH, lof_snoc_int, List.getD_cons_zero, List.getD_cons_succ]; first | done | rfl) | (simp [AV.mapN, AV.mapNL, Ob.mapN, mapNL_p, cnx, canH, canH.canH1, St.h, lowE, lowH, lowL, lowN, AV.allN, AV.allNL, Ob.allN, allNL_p, okNm, okKey, okH, bkp, bk, bkH]; done)), ?_⟩
      simp only [go_sem, ↓reduceIte, Nat.reduceLT, Nat.reduceLeDiff, Nat.reduceEqDiff, Nat.reduceAdd, Nat.reduceSub, Nat.reduceDiv, Nat.reduceMod, Nat.reduceMul, Nat.reduceBEq, Nat.reduceBNe, reduceCtorEq, Int.reduceLT, Int.reduceLE, Int.reduceEq, Int.reduceNe, Int.reduceBEq, Int.reduceBNe, Int.reduceAdd, Int.reduceSub, Int.reduceNeg, Int.reduceToNat, St.back, AV.mapN, AV.mapNL, Ob.mapN, mapNL_p, bk, bkp, bkH]
      exact ⟨_, Le.refl _, rfl, by simp⟩

/-- the tree with a number -/
def treeE (k m : Int) : Int := if 1 ≤ k ∧ k ≤ 8 then (if 0 ≤ m ∧ m < R5.cnt k.toNat then 0 else 2) else 1
def treeV (k m : Int) : List Int := if treeE k m = 0 then (R5.nth k.toNat m.toNat).enc 0 else []

theorem Tree5_spec (k : Int) (m : Int) (hpre : True) : Ret Try.prog 33 [intP k, intP m] (.tuple [ints (treeV k m), errP (treeE k m)]) := by
  refine fn_of (T := [ent_within, ent_counts]) (N := 32) (RO := [6]) (CH := []) (KS := [0, 1, 4, 5, 6, 7, 8, 11, 24]) (NS := [4, 7, 8, 44, 10044]) (fun args w => Try.call33 args w) Try.func33 rfl rfl (by simp) mixed (by kernel_rfl) ⟨tab_within_ok, tab_counts_ok, trivial⟩ ?_
  simp only [go_sem, ↓reduceIte, Nat.reduceLT, Nat.reduceLeDiff, Nat.reduceEqDiff, Nat.reduceAdd, Nat.reduceSub, Nat.reduceDiv, Nat.reduceMod, Nat.reduceMul, Nat.reduceBEq, Nat.reduceBNe, reduceCtorEq, Int.reduceLT, Int.reduceLE, Int.reduceEq, Int.reduceNe, Int.reduceBEq, Int.reduceBNe, Int.reduceAdd, Int.reduceSub, Int.reduceNeg, Int.reduceToNat]
  rw [inB_18]
  unfold treeV treeE
  by_cases h : 1 ≤ k ∧ k ≤ 8
  · obtain ⟨n, rfl⟩ : ∃ n : Nat, k = n := ⟨k.toNat, by omega⟩
    have hl : (cnT (tabWc n)).length = 64 := cellsT_length fun x y => cnP_length _
    have en : ((n : Int) - 1).toNat = n - 1 := by omega
    have g : (cnT (tabWc n)).getD (n - 1) default = intP (R5.cnt n) := by
      rw [cellsT_get (k := 0) (s := 1) (x := 0) (y := n - 1) (fun x y => cnP_length _) (by omega) (by omega) (by omega) (by omega)]
      unfold tabWc cntI; rw [if_pos ⟨by omega, by omega⟩, show n - 1 - 0 + 1 = n by omega]; rfl
    have hc := R5.cnt_le (n := n) (by omega)
    have hin : inB m 0 ((R5.cnt n : Int) - 1) = decide (0 ≤ m ∧ m < R5.cnt n) := by
      unfold inB
      by_cases h1 : 0 ≤ m <;> by_cases h2 : m < R5.cnt n <;> simp [h1, h2] <;> omega
    rw [if_pos h]
    by_cases hm : 0 ≤ m ∧ m < R5.cnt n
    · obtain ⟨j, rfl⟩ : ∃ j : Nat, m = j := ⟨m.toNat, by omega⟩
      have hp := putT_spec n (by omega) n (by omega) 0 j [] (by omega) (by omega) (by simp; omega)
      have eq : natP (0 + n - 1) = intP ((n : Int) - 1) := by unfold natP intP; congr 2; omega
      rw [eq] at hp
      rw [show ((n : Int)).toNat = n by omega, show ((j : Int)).toNat = j by omega, if_pos hm, if_pos rfl]
      simp only [go_sem, ↓reduceIte, Nat.reduceLT, Nat.reduceLeDiff, Nat.reduceEqDiff, Nat.reduceAdd, Nat.reduceSub, Nat.reduceDiv, Nat.reduceMod, Nat.reduceMul, Nat.reduceBEq, Nat.reduceBNe, reduceCtorEq, Int.reduceLT, Int.reduceLE, Int.reduceEq, Int.reduceNe, Int.reduceBEq, Int.reduceBNe, Int.reduceAdd, Int.reduceSub, Int.reduceNeg, Int.reduceToNat, Nat.mul_one, h, en, hl, g, hin, hm]
      (repeat with_reducible refine And.intro (by (repeat' with_reducible refine And.intro ?_ ?_) <;> first | with_reducible assumption | omega | (simp only [InK_i64, InK_u64, InK_u8]; omega) | (unfold sz; omega) | exact True.intro) ?_)
      refine vcall_nilC 7 0 44 3 1 (by first | rfl | (simp only [go_sem, seval, AV.mapN, AV.mapNL, Ob.mapN, mapNL_p, cnx, canH, canH.canH1, lowE, lowH, lowL, lowN, AV.allN, AV.allNL, Ob.allN, allNL_p, okNm, okKey, okH, bkp, bk, bkH, lof_snoc_int, List.getD_cons_zero, List.getD_cons_succ]; first | done | rfl) | (simp [AV.mapN, AV.mapNL, Ob.mapN, mapNL_p, cnx, canH, canH.canH1, St.h, lowE, lowH, lowL, lowN, AV.allN, AV.allNL, Ob.allN, allNL_p, okNm, okKey, okH, bkp, bk, bkH]; done)) ?_
      simp only [go_sem, ↓reduceIte, Nat.reduceLT, Nat.reduceLeDiff, Nat.reduceEqDiff, Nat.reduceAdd, Nat.reduceSub, Nat.reduceDiv, Nat.reduceMod, Nat.reduceMul, Nat.reduceBEq, Nat.reduceBNe, reduceCtorEq, Int.reduceLT, Int.reduceLE, Int.reduceEq, Int.reduceNe, Int.reduceBEq, Int.reduceBNe, Int.reduceAdd, Int.reduceSub, Int.reduceNeg, Int.reduceToNat]
      refine vcallO [7, 8, 44] 10000 hp (by first | rfl | (simp only [go_sem, seval, AV.mapN, AV.mapNL, Ob.mapN, mapNL_p, cnx, canH, canH.canH1, lowE, lowH, lowL, lowN, AV.allN, AV.allNL, Ob.allN, allNL_p, okNm, okKey, okH, bkp, bk, bkH, lof_snoc_int, List.getD_cons_zero, List.getD_cons_succ]; first | done | rfl) | (simp [AV.mapN, AV.mapNL, Ob.mapN, mapNL_p, cnx, canH, canH.canH1, St.h, lowE, lowH, lowL, lowN, AV.allN, AV.allNL, Ob.allN, allNL_p, okNm, okKey, okH, bkp, bk, bkH]; done)) (by first | rfl | (simp only [go_sem, seval, AV.mapN, AV.mapNL, Ob.mapN, mapNL_p, cnx, canH, canH.canH1, lowE, lowH, lowL, lowN, AV.allN, AV.allNL, Ob.allN, allNL_p, okNm, okKey, okH, bkp, bk, bkH, lof_snoc_int, List.getD_cons_zero, List.getD_cons_succ]; first | done | rfl) | (simp [AV.mapN, AV.mapNL, Ob.mapN, mapNL_p, cnx, canH, canH.canH1, St.h, lowE, lowH, lowL, lowN, AV.allN, AV.allNL, Ob.allN, allNL_p, okNm, okKey, okH, bkp, bk, bkH]; done)) (by omega) (by first | rfl | (simp only [go_sem, seval, AV.mapN, AV.mapNL, Ob.mapN, mapNL_p, cnx, canH, canH.canH1, lowE, lowH, lowL, lowN, AV.allN, AV.allNL, Ob.allN, allNL_p, okNm, okKey, okH, bkp, bk, bkH, lof_snoc_int, List.getD_cons_zero, List.getD_cons_succ]; first | done | rfl) | (simp [AV.mapN, AV.mapNL, Ob.mapN, mapNL_p, cnx, canH, canH.canH1, St.h, lowE, lowH, lowL, lowN, AV.allN, AV.allNL, Ob.allN, allNL_p, okNm, okKey, okH, bkp, bk, bkH]; done)) ?_
      rintro x H' ⟨rfl, rfl⟩
      refine ⟨(by first | rfl | (simp only [go_sem, seval, AV.mapN, AV.mapNL, Ob.mapN, mapNL_p, cnx, canH, canH.canH1, lowE, lowH, lowL, lowN, AV.allN, AV.allNL, Ob.allN, allNL_p, okNm, okKey, okH, bkp, bk, bkH, lof_snoc_int, List.getD_cons_zero, List.getD_cons_succ]; first | done | rfl) | (simp [AV.mapN, AV.mapNL, Ob.mapN, mapNL_p, cnx, canH, canH.canH1, St.h, lowE, lowH, lowL, lowN, AV.allN, AV.allNL, Ob.allN, allNL_p, okNm, okKey, okH, bkp, bk, bkH]; done)), ?_⟩
      simp only [go_sem, ↓reduceIte, Nat.reduceLT, Nat.reduceLeDiff, Nat.reduceEqDiff, Nat.reduceAdd, Nat.reduceSub, Nat.reduceDiv, Nat.reduceMod, Nat.reduceMul, Nat.reduceBEq, Nat.reduceBNe, reduceCtorEq, Int.reduceLT, Int.reduceLE, Int.reduceEq, Int.reduceNe, Int.reduceBEq, Int.reduceBNe, Int.reduceAdd, Int.reduceSub, Int.reduceNeg, Int.reduceToNat, St.back, AV.mapN, AV.mapNL, Ob.mapN, mapNL_p, bk, bkp, bkH]
      exact ex_le_refl rfl
    · rw [show ((n : Int)).toNat = n by omega, if_neg hm]
      simp only [go_sem, ↓reduceIte, Nat.reduceLT, Nat.reduceLeDiff, Nat.reduceEqDiff, Nat.reduceAdd, Nat.reduceSub, Nat.reduceDiv, Nat.reduceMod, Nat.reduceMul, Nat.reduceBEq, Nat.reduceBNe, reduceCtorEq, Int.reduceLT, Int.reduceLE, Int.reduceEq, Int.reduceNe, Int.reduceBEq, Int.reduceBNe, Int.reduceAdd, Int.reduceSub, Int.reduceNeg, Int.reduceToNat, Nat.mul_one, h, en, hl, g, hin, hm]
      (repeat with_reducible refine And.intro (by (repeat' with_reducible refine And.intro ?_ ?_) <;> first | with_reducible assumption | omega | (simp only [InK_i64, InK_u64, InK_u8]; omega) | (unfold sz; omega) | exact True.intro) ?_)
      refine ex_le ?_
      (repeat' (first | exact Le.refl _ | exact Le.nilS _ _ | exact Le.tight | refine Le.tuple ?_ | refine Le.list ?_ | refine Le.agg ?_ | refine LeL.cons ?_ ?_ | exact LeL.nil))
  · rw [if_neg h]
    simp only [go_sem, ↓reduceIte, Nat.reduceLT, Nat.reduceLeDiff, Nat.reduceEqDiff, Nat.reduceAdd, Nat.reduceSub, Nat.reduceDiv, Nat.reduceMod, Nat.reduceMul, Nat.reduceBEq, Nat.reduceBNe, reduceCtorEq, Int.reduceLT, Int.reduceLE, Int.reduceEq, Int.reduceNe, Int.reduceBEq, Int.reduceBNe, Int.reduceAdd, Int.reduceSub, Int.reduceNeg, Int.reduceToNat, h]
    refine ex_le ?_
    (repeat' (first | exact Le.refl _ | exact Le.nilS _ _ | exact Le.tight | refine Le.tuple ?_ | refine Le.list ?_ | refine Le.agg ?_ | refine LeL.cons ?_ ?_ | exact LeL.nil))
noncomputable def tab_Tree5 : Tab := tabOf (fun p : (Int) × (Int) => match p with | (k, m) => [intP k, intP m]) (fun p : (Int) × (Int) => match p with | (k, m) => True) (fun p : (Int) × (Int) => match p with | (k, m) => .tuple [ints (treeV k m), errP (treeE k m)])
theorem tab_Tree5_eq (k : Int) (m : Int) : tab_Tree5 [intP k, intP m] = some (True, .p (.tuple [ints (treeV k m), errP (treeE k m)])) := tabOf_eq (enc := fun p : (Int) × (Int) => match p with | (k, m) => [intP k, intP m]) (pre := fun p : (Int) × (Int) => match p with | (k, m) => True) (out := fun p : (Int) × (Int) => match p with | (k, m) => .tuple [ints (treeV k m), errP (treeE k m)]) (by rintro ⟨k, m⟩ ⟨k', m'⟩ h; simp at h; first | (simp [h]; done) | omega | (simp [h]; omega)) (k, m)
theorem tab_Tree5_ok : TabOK Try.prog 33 tab_Tree5 := tabOf_ok (by rintro ⟨k, m⟩ h; exact Tree5_spec k m h)
noncomputable abbrev ent_Tree5 : FuncId × List Nat × Tab := (33, [], tab_Tree5)
attribute [go_sem] tab_Tree5_eq
end Go.V
