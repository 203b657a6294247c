/-
  Contracts of the laws of chapter 07: what is drawn; sets as lists; all whole lists. Conditions: none.
-/
import Derived.Test.YtnblnnfikpenpaaDoorD7b
import Derived.Test.YtnblnnfikpenpaaDoorC7a
import Derived.Test.YtnblnnfikpenpaaDoorP7m
set_option linter.unusedVariables false
set_option linter.unusedSimpArgs false
set_option linter.deprecated false
namespace Go.V
open Go.Proofs
set_option maxRecDepth 100000
set_option maxHeartbeats 4000000

/-! ### what is drawn -/
theorem u16s_one (A : List Nat) : (List.map AV.p (lof u16P A)).all AV.one = true := by
  rw [List.all_eq_true]
  intro x hx
  simp only [lof, List.map_map, List.mem_map, Function.comp] at hx
  obtain ⟨a, _, rfl⟩ := hx
  rfl
theorem u8s_one (A : List Nat) : (List.map AV.p (lof u8P A)).all AV.one = true := by
  rw [List.all_eq_true]
  intro x hx
  simp only [lof, List.map_map, List.mem_map, Function.comp] at hx
  obtain ⟨a, _, rfl⟩ := hx
  rfl
theorem u8s_norm (A : List Nat) : List.map (norm0 1) (lof u8P A) = lof u8P A := by
  simp only [lof, List.map_map]
  apply List.map_congr_left
  intro a _; rfl
theorem u16s_norm (A : List Nat) : List.map (norm0 1) (lof u16P A) = lof u16P A := by
  simp only [lof, List.map_map]
  apply List.map_congr_left
  intro a _; rfl
theorem emod_nat (a b : Nat) : (a : Int) % (b : Int) = ((a % b : Nat) : Int) := (Int.natCast_emod a b).symm
theorem made_spec (h : Nat × List Nat) (most : Nat) (g : FuncId) (caps : List PV) (m : Nat) (ok : HeapOK h) (h1 : 1 ≤ most) (h6 : most ≤ 6) (hm : m ≤ 1000) (hg : Ret Tryd.prog g (natP (1 + h.1 % most) :: caps) (natP m)) :
    Ret Tryd.prog 41 [heapP h, natP most, .func g caps] (.tuple [natP (1 + h.1 % most), ints (R7.madeL h.2 (min m 12))]) := by
  refine fn_of (T := []) (N := 38) (RO := [3, 33]) (CH := []) (KS := [0, 1, 2, 3, 6, 7, 8, 9, 11, 23, 24, 25, 26]) (NS := [7, 9, 34]) (fun args w => Tryd.call41 args w) Tryd.func41 rfl rfl (by simp) mixed (by kernel_rfl) trivial ?_
  obtain ⟨s, W⟩ := h
  obtain ⟨hs, hl, hlt'⟩ := ok
  simp only at hs hl hlt' hg ⊢
  have e1 := emod_nat s most
  have hr1 := Nat.mod_lt s (show most > 0 by omega)
  have e2 : (1 : Int) + ((s % most : Nat) : Int) = ((1 + s % most : Nat) : Int) := by omega
  simp only [go_sem, ↓reduceIte, Nat.reduceLT, Nat.reduceLeDiff, Nat.reduceEqDiff, Nat.reduceAdd, Nat.reduceSub, Nat.reduceDiv, Nat.reduceMod, Nat.reduceMul, Nat.reduceBEq, Nat.reduceBNe, reduceCtorEq, Int.reduceLT, Int.reduceLE, Int.reduceEq, Int.reduceNe, Int.reduceBEq, Int.reduceBNe, Int.reduceAdd, Int.reduceSub, Int.reduceNeg, Int.reduceToNat, u16s_one, e1, e2]
  generalize 1 + s % most = n at *
  refine ⟨by omega, by rw [InK_i64]; omega, by omega, by rw [InK_i64]; omega, ?_⟩
  refine vret_pure hg (qs := natP n :: caps) (by rw [show (AV.p (PV.val (Value.int IntKind.i64 ↑n)) :: List.map AV.p caps) = (natP n :: caps).map AV.p from rfl]; exact pvs_map _) (LeL.refl _) (by decide) ?_
  simp only [go_sem, ↓reduceIte, Nat.reduceLT, Nat.reduceLeDiff, Nat.reduceEqDiff, Nat.reduceAdd, Nat.reduceSub, Nat.reduceDiv, Nat.reduceMod, Nat.reduceMul, Nat.reduceBEq, Nat.reduceBNe, reduceCtorEq, Int.reduceLT, Int.reduceLE, Int.reduceEq, Int.reduceNe, Int.reduceBEq, Int.reduceBNe, Int.reduceAdd, Int.reduceSub, Int.reduceNeg, Int.reduceToNat]
  obtain ⟨k, hk⟩ : ∃ k, min m 12 = k := ⟨_, rfl⟩
  have em : (if (12 : Int) < (m : Int) then (12 : Int) else (m : Int)) = (k : Int) := by split <;> omega
  have hk12 : k ≤ 12 := by omega
  have hwk : (W.take k).length = k := by rw [List.length_take]; omega
  rw [em, hk, Int.toNat_natCast, lof_take, lof_length, hwk]
  refine ⟨by omega, ?_⟩
  refine vfor [8,9,23,24,25] [9] [.nilS 9 3 1] k (fun _ => True) (fun j => ⟨[(8,.p (natP n)),(9,.sl 9),(23,.p (.list .any 1 (lof u16P (W.take k)))),(24,.p (natP k)),(25,.p (natP j))], [(9,.vec 3 1 (lof intP ((R7.madeL W k).take j)))]⟩) (by first | rfl | (simp only [go_sem, ↓reduceIte, Nat.reduceLT, Nat.reduceLeDiff, Nat.reduceEqDiff, Nat.reduceAdd, Nat.reduceSub, Nat.reduceDiv, Nat.reduceMod, Nat.reduceMul, Nat.reduceBEq, Nat.reduceBNe, reduceCtorEq, Int.reduceLT, Int.reduceLE, Int.reduceEq, Int.reduceNe, Int.reduceBEq, Int.reduceBNe, Int.reduceAdd, Int.reduceSub, Int.reduceNeg, Int.reduceToNat]; first | done | rfl)) trivial ?_
  intro j hj _
  have hml : (R7.madeL W k).length = k := R7.madeL_length (by omega)
  by_cases hlt : j < k
  · obtain ⟨x, hx⟩ := get_some (show j < (W.take k).length by omega)
    have hx2 := hlt' x (List.mem_of_mem_take (List.mem_of_getElem? hx))
    have hts : (R7.madeL W k).take (j + 1) = (R7.madeL W k).take j ++ [((x % 1001 : Nat) : Int)] := take_succ_of (by unfold R7.madeL; rw [List.getElem?_map, hx]; rfl)
    have hlen : ((R7.madeL W k).take j).length ≤ 4294967295 := by rw [List.length_take]; omega
    have e3 : (x : Int) % 1001 = ((x % 1001 : Nat) : Int) := by omega
    simp only [go_sem, ↓reduceIte, Nat.reduceLT, Nat.reduceLeDiff, Nat.reduceEqDiff, Nat.reduceAdd, Nat.reduceSub, Nat.reduceDiv, Nat.reduceMod, Nat.reduceMul, Nat.reduceBEq, Nat.reduceBNe, reduceCtorEq, Int.reduceLT, Int.reduceLE, Int.reduceEq, Int.reduceNe, Int.reduceBEq, Int.reduceBNe, Int.reduceAdd, Int.reduceSub, Int.reduceNeg, Int.reduceToNat, hlt, lof_getD hx, lof_length, hwk, e3]
    rw [hts]
    exact ⟨by rw [InK_i64]; omega, hlen, by rw [InK_i64]; omega, by simp [lof]⟩
  · obtain rfl : j = k := by omega
    simp only [go_sem, ↓reduceIte, Nat.reduceLT, Nat.reduceLeDiff, Nat.reduceEqDiff, Nat.reduceAdd, Nat.reduceSub, Nat.reduceDiv, Nat.reduceMod, Nat.reduceMul, Nat.reduceBEq, Nat.reduceBNe, reduceCtorEq, Int.reduceLT, Int.reduceLE, Int.reduceEq, Int.reduceNe, Int.reduceBEq, Int.reduceBNe, Int.reduceAdd, Int.reduceSub, Int.reduceNeg, Int.reduceToNat, Nat.lt_irrefl]
    rw [List.take_of_length_le (by omega)]
    exact ex_le_refl rfl

/-! ### a set as a list -/
abbrev memP (L : List Int) (m : Nat) : PV := .tuple [ints (ofN (R7.ones m)), intP (R7.wt L (R7.ones m))]
theorem members7_spec (L : List Int) (m : Nat) (hpre : L.length ≤ 12 ∧ (∀ x ∈ L, 0 ≤ x ∧ x ≤ 1000) ∧ m < 2 ^ L.length) : Ret Tryd.prog 44 [ints L, u64P m] (memP L m) := by
  refine fn_of (T := [ent_tz]) (N := 29) (RO := [19]) (CH := []) (KS := [0, 1, 4, 5, 6, 7, 8, 10]) (NS := [4, 6, 20]) (fun args w => Tryd.call44 args w) Tryd.func44 rfl rfl (by simp) mixed (by kernel_rfl) ⟨tab_tz_ok, trivial⟩ ?_
  simp only [go_sem, ↓reduceIte, Nat.reduceLT, Nat.reduceLeDiff, Nat.reduceEqDiff, Nat.reduceAdd, Nat.reduceSub, Nat.reduceDiv, Nat.reduceMod, Nat.reduceMul, Nat.reduceBEq, Nat.reduceBNe, reduceCtorEq, Int.reduceLT, Int.reduceLE, Int.reduceEq, Int.reduceNe, Int.reduceBEq, Int.reduceBNe, Int.reduceAdd, Int.reduceSub, Int.reduceNeg, Int.reduceToNat]
  obtain ⟨h12, hxx, hm⟩ := hpre
  have hp := R7.pow12 h12
  have hwb : ∀ l : List Nat, 0 ≤ R7.wt L l ∧ R7.wt L l ≤ 1000 * l.length := fun l => by
    induction l with
    | nil => simp [R7.wt]
    | cons i r ih =>
      have h1 : 0 ≤ L.getD i 0 ∧ L.getD i 0 ≤ 1000 := by
        rw [List.getD_eq_getElem?_getD]
        cases h : L[i]? with
        | none => simp
        | some x => exact hxx x (List.mem_of_getElem? h)
      rw [R7.wt_cons]; simp only [List.length_cons]; omega
  refine vwhile [0,1,6,7] [6] [.nilS 6 3 1] (fun d : Nat × List Nat => d.1 ≤ m ∧ d.2 ++ R7.ones d.1 = R7.ones m) (fun d => d.1) (fun d => ⟨[(0,.p (ints L)),(1,.p (u64P d.1)),(6,.sl 6),(7,.p (intP (R7.wt L d.2)))], [(6,.vec 3 1 (lof intP (ofN d.2)))]⟩) (m, []) (by first | rfl | (simp only [go_sem, ↓reduceIte, Nat.reduceLT, Nat.reduceLeDiff, Nat.reduceEqDiff, Nat.reduceAdd, Nat.reduceSub, Nat.reduceDiv, Nat.reduceMod, Nat.reduceMul, Nat.reduceBEq, Nat.reduceBNe, reduceCtorEq, Int.reduceLT, Int.reduceLE, Int.reduceEq, Int.reduceNe, Int.reduceBEq, Int.reduceBNe, Int.reduceAdd, Int.reduceSub, Int.reduceNeg, Int.reduceToNat]; first | done | rfl)) ⟨Nat.le_refl _, rfl⟩ ?_
  rintro ⟨g, o⟩ ⟨hg, hI⟩
  simp only at hg hI
  by_cases h0 : g = 0
  · subst h0
    rw [R7.ones_zero, List.append_nil] at hI
    subst hI
    simp only [go_sem, ↓reduceIte, Nat.reduceLT, Nat.reduceLeDiff, Nat.reduceEqDiff, Nat.reduceAdd, Nat.reduceSub, Nat.reduceDiv, Nat.reduceMod, Nat.reduceMul, Nat.reduceBEq, Nat.reduceBNe, reduceCtorEq, Int.reduceLT, Int.reduceLE, Int.reduceEq, Int.reduceNe, Int.reduceBEq, Int.reduceBNe, Int.reduceAdd, Int.reduceSub, Int.reduceNeg, Int.reduceToNat]
    exact ex_le_refl rfl
  · have hs := R7.ones_step g (by omega) h0
    have hlen : o.length + 1 ≤ 12 := by
      have h1 := congrArg List.length hI
      have h2 := ones_len m
      rw [hs, List.length_append, List.length_cons] at h1; omega
    have e : ((g : Int) - 1) = ((g - 1 : Nat) : Int) := by omega
    have hlt := and_pred h0
    have htl : R7.tz g < L.length := R7.ones_lt (show g < 2 ^ L.length by omega) _ (by rw [hs]; simp)
    obtain ⟨y, hy⟩ := get_some htl
    have hyb := hxx y (List.mem_of_getElem? hy)
    have hwo := hwb o
    have hw1 : R7.wt L (o ++ [R7.tz g]) = R7.wt L o + y := by rw [R7.wt_append, R7.wt_cons, R7.wt_nil, List.getD_eq_getElem?_getD, hy]; simp
    simp only [go_sem, ↓reduceIte, Nat.reduceLT, Nat.reduceLeDiff, Nat.reduceEqDiff, Nat.reduceAdd, Nat.reduceSub, Nat.reduceDiv, Nat.reduceMod, Nat.reduceMul, Nat.reduceBEq, Nat.reduceBNe, reduceCtorEq, Int.reduceLT, Int.reduceLE, Int.reduceEq, Int.reduceNe, Int.reduceBEq, Int.reduceBNe, Int.reduceAdd, Int.reduceSub, Int.reduceNeg, Int.reduceToNat, show ((g : Int) != 0) = true by simp [h0], e, u64_and (show g < 18446744073709551616 by omega) (show g - 1 < 18446744073709551616 by omega), lof_getD hy, ofN_length]
    exact ⟨⟨by omega, h0⟩, by omega, htl, by rw [InK_i64]; omega, by rw [InK_u64]; omega, (g &&& (g - 1), o ++ [R7.tz g]), hlt, ⟨by simp only; omega, by simp only [List.append_assoc, List.singleton_append]; rw [← hs]; exact hI⟩, by rw [hw1]; simp [lof, ofN]⟩
noncomputable def tab_members7 : Tab := tabOf (fun p : (List Int) × (Nat) => match p with | (L, m) => [ints L, u64P m]) (fun p : (List Int) × (Nat) => match p with | (L, m) => L.length ≤ 12 ∧ (∀ x ∈ L, 0 ≤ x ∧ x ≤ 1000) ∧ m < 2 ^ L.length) (fun p : (List Int) × (Nat) => match p with | (L, m) => memP L m)
theorem tab_members7_eq (L : List Int) (m : Nat) : tab_members7 [ints L, u64P m] = some (L.length ≤ 12 ∧ (∀ x ∈ L, 0 ≤ x ∧ x ≤ 1000) ∧ m < 2 ^ L.length, .p (memP L m)) := tabOf_eq (enc := fun p : (List Int) × (Nat) => match p with | (L, m) => [ints L, u64P m]) (pre := fun p : (List Int) × (Nat) => match p with | (L, m) => L.length ≤ 12 ∧ (∀ x ∈ L, 0 ≤ x ∧ x ≤ 1000) ∧ m < 2 ^ L.length) (out := fun p : (List Int) × (Nat) => match p with | (L, m) => memP L m) (by rintro ⟨L, m⟩ ⟨L', m'⟩ h; simp at h; first | (simp [h]; done) | omega | (simp [h]; omega)) (L, m)
theorem tab_members7_ok : TabOK Tryd.prog 44 tab_members7 := tabOf_ok (by rintro ⟨L, m⟩ h; exact members7_spec L m h)
noncomputable abbrev ent_members7 : FuncId × List Nat × Tab := (44, [1, 0], tab_members7)
attribute [go_sem] tab_members7_eq

theorem isNaN_spec (x : Int) (hpre : True) : Ret Tryd.prog 108 [intP x] (boolP false) := by
  refine fn_of (T := []) (N := 6) (RO := []) (CH := []) (KS := [0, 2]) (NS := []) (fun args w => Tryd.call108 args w) Tryd.func108 rfl rfl (by simp) mixed (by kernel_rfl) trivial ?_
  simp only [go_sem, ↓reduceIte, Nat.reduceLT, Nat.reduceLeDiff, Nat.reduceEqDiff, Nat.reduceAdd, Nat.reduceSub, Nat.reduceDiv, Nat.reduceMod, Nat.reduceMul, Nat.reduceBEq, Nat.reduceBNe, reduceCtorEq, Int.reduceLT, Int.reduceLE, Int.reduceEq, Int.reduceNe, Int.reduceBEq, Int.reduceBNe, Int.reduceAdd, Int.reduceSub, Int.reduceNeg, Int.reduceToNat]
  exact ex_le_refl (by simp)
noncomputable def tab_isNaN : Tab := tabOf (fun p : (Int) => match p with | x => [intP x]) (fun p : (Int) => match p with | x => True) (fun p : (Int) => match p with | x => boolP false)
theorem tab_isNaN_eq (x : Int) : tab_isNaN [intP x] = some (True, .p (boolP false)) := tabOf_eq (enc := fun p : (Int) => match p with | x => [intP x]) (pre := fun p : (Int) => match p with | x => True) (out := fun p : (Int) => match p with | x => boolP false) (by rintro x x' h; simp at h; first | (simp [h]; done) | omega | (simp [h]; omega)) (x)
theorem tab_isNaN_ok : TabOK Tryd.prog 108 tab_isNaN := tabOf_ok (by rintro x h; exact isNaN_spec x h)
noncomputable abbrev ent_isNaN : FuncId × List Nat × Tab := (108, [], tab_isNaN)
attribute [go_sem] tab_isNaN_eq

theorem cmpII_spec (x : Int) (y : Int) (hpre : True) : Ret Tryd.prog 81 [intP x, intP y] (intP (cmpI x y)) := by
  refine fn_of (T := [ent_isNaN]) (N := 20) (RO := []) (CH := []) (KS := [0, 1, 4, 5, 6, 11, 12, 13, 16, 19]) (NS := []) (fun args w => Tryd.call81 args w) Tryd.func81 rfl rfl (by simp) mixed (by kernel_rfl) ⟨tab_isNaN_ok, trivial⟩ ?_
  simp only [go_sem, ↓reduceIte, Nat.reduceLT, Nat.reduceLeDiff, Nat.reduceEqDiff, Nat.reduceAdd, Nat.reduceSub, Nat.reduceDiv, Nat.reduceMod, Nat.reduceMul, Nat.reduceBEq, Nat.reduceBNe, reduceCtorEq, Int.reduceLT, Int.reduceLE, Int.reduceEq, Int.reduceNe, Int.reduceBEq, Int.reduceBNe, Int.reduceAdd, Int.reduceSub, Int.reduceNeg, Int.reduceToNat]
  by_cases h1 : x < y
  · simp only [go_sem, ↓reduceIte, Nat.reduceLT, Nat.reduceLeDiff, Nat.reduceEqDiff, Nat.reduceAdd, Nat.reduceSub, Nat.reduceDiv, Nat.reduceMod, Nat.reduceMul, Nat.reduceBEq, Nat.reduceBNe, reduceCtorEq, Int.reduceLT, Int.reduceLE, Int.reduceEq, Int.reduceNe, Int.reduceBEq, Int.reduceBNe, Int.reduceAdd, Int.reduceSub, Int.reduceNeg, Int.reduceToNat, h1]
    exact ex_le_refl (by simp [cmpI, h1])
  · by_cases h2 : y < x
    · simp only [go_sem, ↓reduceIte, Nat.reduceLT, Nat.reduceLeDiff, Nat.reduceEqDiff, Nat.reduceAdd, Nat.reduceSub, Nat.reduceDiv, Nat.reduceMod, Nat.reduceMul, Nat.reduceBEq, Nat.reduceBNe, reduceCtorEq, Int.reduceLT, Int.reduceLE, Int.reduceEq, Int.reduceNe, Int.reduceBEq, Int.reduceBNe, Int.reduceAdd, Int.reduceSub, Int.reduceNeg, Int.reduceToNat, h1, h2]
      exact ex_le_refl (by simp [cmpI, h1, h2])
    · simp only [go_sem, ↓reduceIte, Nat.reduceLT, Nat.reduceLeDiff, Nat.reduceEqDiff, Nat.reduceAdd, Nat.reduceSub, Nat.reduceDiv, Nat.reduceMod, Nat.reduceMul, Nat.reduceBEq, Nat.reduceBNe, reduceCtorEq, Int.reduceLT, Int.reduceLE, Int.reduceEq, Int.reduceNe, Int.reduceBEq, Int.reduceBNe, Int.reduceAdd, Int.reduceSub, Int.reduceNeg, Int.reduceToNat, h1, h2]
      exact ex_le_refl (by simp [cmpI, h1, h2])
noncomputable def tab_cmpII : Tab := tabOf (fun p : (Int) × (Int) => match p with | (x, y) => [intP x, intP y]) (fun p : (Int) × (Int) => match p with | (x, y) => True) (fun p : (Int) × (Int) => match p with | (x, y) => intP (cmpI x y))
theorem tab_cmpII_eq (x : Int) (y : Int) : tab_cmpII [intP x, intP y] = some (True, .p (intP (cmpI x y))) := tabOf_eq (enc := fun p : (Int) × (Int) => match p with | (x, y) => [intP x, intP y]) (pre := fun p : (Int) × (Int) => match p with | (x, y) => True) (out := fun p : (Int) × (Int) => match p with | (x, y) => intP (cmpI x y)) (by rintro ⟨x, y⟩ ⟨x', y'⟩ h; simp at h; first | (simp [h]; done) | omega | (simp [h]; omega)) (x, y)
theorem tab_cmpII_ok : TabOK Tryd.prog 81 tab_cmpII := tabOf_ok (by rintro ⟨x, y⟩ h; exact cmpII_spec x y h)
noncomputable abbrev ent_cmpII : FuncId × List Nat × Tab := (81, [], tab_cmpII)
attribute [go_sem] tab_cmpII_eq
theorem cmpLL_spec (a : List Int) (b : List Int) (hpre : sz a.length ∧ sz b.length) : Ret Tryd.prog 57 [ints a, ints b] (intP (cmpL a b)) := by
  refine fn_of (T := [ent_cmpII]) (N := 36) (RO := []) (CH := []) (KS := [0, 1, 4, 5, 6, 7, 8, 9, 10, 11, 12, 19, 28, 35]) (NS := []) (fun args w => Tryd.call57 args w) Tryd.func57 rfl rfl (by simp) mixed (by kernel_rfl) ⟨tab_cmpII_ok, trivial⟩ ?_
  simp only [go_sem, ↓reduceIte, Nat.reduceLT, Nat.reduceLeDiff, Nat.reduceEqDiff, Nat.reduceAdd, Nat.reduceSub, Nat.reduceDiv, Nat.reduceMod, Nat.reduceMul, Nat.reduceBEq, Nat.reduceBNe, reduceCtorEq, Int.reduceLT, Int.reduceLE, Int.reduceEq, Int.reduceNe, Int.reduceBEq, Int.reduceBNe, Int.reduceAdd, Int.reduceSub, Int.reduceNeg, Int.reduceToNat]
  refine vfor [0,1,9,10,11] [] [] a.length (fun k => k ≤ b.length ∧ cmpL a b = cmpL (a.drop k) (b.drop k)) (fun k => ⟨[(0,.p (ints a)),(1,.p (ints b)),(9,.p (ints a)),(10,.p (natP a.length)),(11,.p (natP k))], []⟩) rfl ⟨by simp, rfl⟩ ?_
  rintro k hk ⟨hkb, hI⟩
  by_cases hlt : k < a.length
  · obtain ⟨x, hx⟩ := get_some hlt
    have hda : a.drop k = x :: a.drop (k + 1) := by rw [List.drop_eq_getElem_cons hlt]; simp [List.getElem?_eq_getElem hlt] at hx; rw [hx]
    by_cases hb : b.length ≤ k
    · simp only [go_sem, ↓reduceIte, Nat.reduceLT, Nat.reduceLeDiff, Nat.reduceEqDiff, Nat.reduceAdd, Nat.reduceSub, Nat.reduceDiv, Nat.reduceMod, Nat.reduceMul, Nat.reduceBEq, Nat.reduceBNe, reduceCtorEq, Int.reduceLT, Int.reduceLE, Int.reduceEq, Int.reduceNe, Int.reduceBEq, Int.reduceBNe, Int.reduceAdd, Int.reduceSub, Int.reduceNeg, Int.reduceToNat, hlt, lof_getD hx, hb]
      have hdb : b.drop k = [] := List.drop_of_length_le (by omega)
      rw [hda, hdb] at hI
      exact ex_le_refl (by rw [hI]; rfl)
    · obtain ⟨y, hy⟩ := get_some (show k < b.length by omega)
      have hdb : b.drop k = y :: b.drop (k + 1) := by rw [List.drop_eq_getElem_cons (by omega)]; simp [List.getElem?_eq_getElem (show k < b.length by omega)] at hy; rw [hy]
      rw [hda, hdb, cmpL_cons] at hI
      have hkb' : k < b.length := by omega
      by_cases hc : cmpI x y = 0
      · rw [if_neg (by simp [hc])] at hI
        simp only [go_sem, ↓reduceIte, Nat.reduceLT, Nat.reduceLeDiff, Nat.reduceEqDiff, Nat.reduceAdd, Nat.reduceSub, Nat.reduceDiv, Nat.reduceMod, Nat.reduceMul, Nat.reduceBEq, Nat.reduceBNe, reduceCtorEq, Int.reduceLT, Int.reduceLE, Int.reduceEq, Int.reduceNe, Int.reduceBEq, Int.reduceBNe, Int.reduceAdd, Int.reduceSub, Int.reduceNeg, Int.reduceToNat, hlt, lof_getD hx, hb, lof_getD hy, hc, hkb']
        (repeat' (first | assumption | (rw [InK_i64]; omega) | (rw [InK_u8]; omega) | (rw [InK_u64]; omega) | omega | rfl | apply And.intro))
      · rw [if_pos hc] at hI
        simp only [go_sem, ↓reduceIte, Nat.reduceLT, Nat.reduceLeDiff, Nat.reduceEqDiff, Nat.reduceAdd, Nat.reduceSub, Nat.reduceDiv, Nat.reduceMod, Nat.reduceMul, Nat.reduceBEq, Nat.reduceBNe, reduceCtorEq, Int.reduceLT, Int.reduceLE, Int.reduceEq, Int.reduceNe, Int.reduceBEq, Int.reduceBNe, Int.reduceAdd, Int.reduceSub, Int.reduceNeg, Int.reduceToNat, hlt, lof_getD hx, hb, lof_getD hy, hkb', show (cmpI x y != 0) = true by simp [hc]]
        exact ex_le_refl (by rw [hI])
  · have hda : a.drop k = [] := List.drop_of_length_le (by omega)
    obtain rfl : k = a.length := by omega
    rw [hda, cmpL_nil] at hI
    by_cases hb : (a.length : Int) < b.length
    · simp only [go_sem, ↓reduceIte, Nat.reduceLT, Nat.reduceLeDiff, Nat.reduceEqDiff, Nat.reduceAdd, Nat.reduceSub, Nat.reduceDiv, Nat.reduceMod, Nat.reduceMul, Nat.reduceBEq, Nat.reduceBNe, reduceCtorEq, Int.reduceLT, Int.reduceLE, Int.reduceEq, Int.reduceNe, Int.reduceBEq, Int.reduceBNe, Int.reduceAdd, Int.reduceSub, Int.reduceNeg, Int.reduceToNat, hlt, hb]
      exact ex_le_refl (by rw [hI, if_neg (by intro e; have := congrArg List.length e; simp at this; omega)])
    · simp only [go_sem, ↓reduceIte, Nat.reduceLT, Nat.reduceLeDiff, Nat.reduceEqDiff, Nat.reduceAdd, Nat.reduceSub, Nat.reduceDiv, Nat.reduceMod, Nat.reduceMul, Nat.reduceBEq, Nat.reduceBNe, reduceCtorEq, Int.reduceLT, Int.reduceLE, Int.reduceEq, Int.reduceNe, Int.reduceBEq, Int.reduceBNe, Int.reduceAdd, Int.reduceSub, Int.reduceNeg, Int.reduceToNat, hlt, hb]
      exact ex_le_refl (by rw [hI, if_pos (List.drop_of_length_le (by omega))])
noncomputable def tab_cmpLL : Tab := tabOf (fun p : (List Int) × (List Int) => match p with | (a, b) => [ints a, ints b]) (fun p : (List Int) × (List Int) => match p with | (a, b) => sz a.length ∧ sz b.length) (fun p : (List Int) × (List Int) => match p with | (a, b) => intP (cmpL a b))
theorem tab_cmpLL_eq (a : List Int) (b : List Int) : tab_cmpLL [ints a, ints b] = some (sz a.length ∧ sz b.length, .p (intP (cmpL a b))) := tabOf_eq (enc := fun p : (List Int) × (List Int) => match p with | (a, b) => [ints a, ints b]) (pre := fun p : (List Int) × (List Int) => match p with | (a, b) => sz a.length ∧ sz b.length) (out := fun p : (List Int) × (List Int) => match p with | (a, b) => intP (cmpL a b)) (by rintro ⟨a, b⟩ ⟨a', b'⟩ h; simp at h; first | (simp [h]; done) | omega | (simp [h]; omega)) (a, b)
theorem tab_cmpLL_ok : TabOK Tryd.prog 57 tab_cmpLL := tabOf_ok (by rintro ⟨a, b⟩ h; exact cmpLL_spec a b h)
noncomputable abbrev ent_cmpLL : FuncId × List Nat × Tab := (57, [1, 1], tab_cmpLL)
attribute [go_sem] tab_cmpLL_eq

theorem cmpL_orders {l : List (List Int)} : Orders cmpL l where
  irrefl x _ := by rw [cmpL_refl]; omega
  trans x _ y _ z _ h1 h2 := cmpL_lt_trans h1 h2
  ntrans x _ y _ z _ h1 h2 := cmpL_ntrans h1 h2

theorem wholesL_spec (n : Nat) (L : List Int) (k : Nat) (hpre : Okl n L) : Ret Tryd.prog 54 [natP n, ints L, natP k] (lists ((R7.whole n L k).map ofN)) := by
  refine fn_of (T := [ent_members7, ent_oc]) (N := 39) (RO := [33]) (CH := []) (KS := [0, 1, 2, 6, 7, 8, 9, 10, 13, 14, 15, 20, 30]) (NS := [6, 7, 34]) (fun args w => Tryd.call54 args w) Tryd.func54 rfl rfl (by simp) mixed (by kernel_rfl) ⟨tab_members7_ok, tab_oc_ok, trivial⟩ ?_
  simp only [go_sem, ↓reduceIte, Nat.reduceLT, Nat.reduceLeDiff, Nat.reduceEqDiff, Nat.reduceAdd, Nat.reduceSub, Nat.reduceDiv, Nat.reduceMod, Nat.reduceMul, Nat.reduceBEq, Nat.reduceBNe, reduceCtorEq, Int.reduceLT, Int.reduceLE, Int.reduceEq, Int.reduceNe, Int.reduceBEq, Int.reduceBNe, Int.reduceAdd, Int.reduceSub, Int.reduceNeg, Int.reduceToNat]
  have h12 := hpre.len
  have hp := R7.pow12 h12
  have hn1 := hpre.n1
  have e2 : (1 : Int) * 2 ^ L.length = ((2 ^ L.length : Nat) : Int) := by push_cast; simp
  have hp0 : (0 : Int) ≤ ((2 ^ L.length : Nat) : Int) := Int.natCast_nonneg _
  rw [e2]
  refine ⟨⟨by omega, by rw [InK_u64]; omega⟩, ?_⟩
  refine vfor [0,1,2,7,13,14] [7] [.nilS 7 22 1] (2 ^ L.length) (fun _ => True) (fun c => ⟨[(0,.p (natP n)),(1,.p (ints L)),(2,.p (natP k)),(7,.sl 7),(13,.p (u64P (2 ^ L.length))),(14,.p (u64P c))], [(7,.vec 22 1 (lof ints ((R7.wholeC n L k c).map ofN)))]⟩) (by first | rfl | (simp only [go_sem, ↓reduceIte, Nat.reduceLT, Nat.reduceLeDiff, Nat.reduceEqDiff, Nat.reduceAdd, Nat.reduceSub, Nat.reduceDiv, Nat.reduceMod, Nat.reduceMul, Nat.reduceBEq, Nat.reduceBNe, reduceCtorEq, Int.reduceLT, Int.reduceLE, Int.reduceEq, Int.reduceNe, Int.reduceBEq, Int.reduceBNe, Int.reduceAdd, Int.reduceSub, Int.reduceNeg, Int.reduceToNat]; first | done | rfl)) trivial ?_
  intro c hc _
  have hwl := R7.wholeC_length n L k c
  by_cases hlt : c < 2 ^ L.length
  · have hsu := R7.wholeC_succ n L k c
    have hxx : ∀ x ∈ L, 0 ≤ x ∧ x ≤ 1000 := fun x hx => ⟨hpre.lo x hx, hpre.hi x hx⟩
    cases hb : ((R7.ones c).length == k) with
    | false =>
      have hb2 : ((oc c : Int) != (k : Int)) = true := by unfold oc; rw [bne_iff_ne]; rw [beq_eq_false_iff_ne] at hb; omega
      rw [hb] at hsu
      simp only [go_sem, ↓reduceIte, Nat.reduceLT, Nat.reduceLeDiff, Nat.reduceEqDiff, Nat.reduceAdd, Nat.reduceSub, Nat.reduceDiv, Nat.reduceMod, Nat.reduceMul, Nat.reduceBEq, Nat.reduceBNe, reduceCtorEq, Int.reduceLT, Int.reduceLE, Int.reduceEq, Int.reduceNe, Int.reduceBEq, Int.reduceBNe, Int.reduceAdd, Int.reduceSub, Int.reduceNeg, Int.reduceToNat, hlt, hb2]
      rw [hsu]
      exact ⟨by omega, by rw [InK_u64]; omega, by simp⟩
    | true =>
      have hb2 : ((oc c : Int) != (k : Int)) = false := by unfold oc; rw [bne_eq_false_iff_eq]; rw [beq_iff_eq] at hb; omega
      cases hv : (R7.wt L (R7.ones c) % n == 0) with
      | false =>
        rw [hb, hv] at hsu
        simp only [go_sem, ↓reduceIte, Nat.reduceLT, Nat.reduceLeDiff, Nat.reduceEqDiff, Nat.reduceAdd, Nat.reduceSub, Nat.reduceDiv, Nat.reduceMod, Nat.reduceMul, Nat.reduceBEq, Nat.reduceBNe, reduceCtorEq, Int.reduceLT, Int.reduceLE, Int.reduceEq, Int.reduceNe, Int.reduceBEq, Int.reduceBNe, Int.reduceAdd, Int.reduceSub, Int.reduceNeg, Int.reduceToNat, hlt, hb2, hv]
        rw [hsu]
        have hwb : 0 ≤ R7.wt L (R7.ones c) := by rw [← wtI_ofN]; exact (wtI_bound hpre _).1
        exact ⟨by omega, ⟨h12, hxx⟩, ⟨hwb, by omega⟩, by rw [InK_u64]; omega, by simp⟩
      | true =>
        rw [hb, hv] at hsu
        simp only [go_sem, ↓reduceIte, Nat.reduceLT, Nat.reduceLeDiff, Nat.reduceEqDiff, Nat.reduceAdd, Nat.reduceSub, Nat.reduceDiv, Nat.reduceMod, Nat.reduceMul, Nat.reduceBEq, Nat.reduceBNe, reduceCtorEq, Int.reduceLT, Int.reduceLE, Int.reduceEq, Int.reduceNe, Int.reduceBEq, Int.reduceBNe, Int.reduceAdd, Int.reduceSub, Int.reduceNeg, Int.reduceToNat, hlt, hb2, hv]
        rw [hsu]
        have hwb : 0 ≤ R7.wt L (R7.ones c) := by rw [← wtI_ofN]; exact (wtI_bound hpre _).1
        exact ⟨by omega, ⟨h12, hxx⟩, ⟨hwb, by omega⟩, by rw [List.length_map]; omega, by rw [InK_u64]; omega, by simp [lof]⟩
  · obtain rfl : c = 2 ^ L.length := by omega
    simp only [go_sem, ↓reduceIte, Nat.reduceLT, Nat.reduceLeDiff, Nat.reduceEqDiff, Nat.reduceAdd, Nat.reduceSub, Nat.reduceDiv, Nat.reduceMod, Nat.reduceMul, Nat.reduceBEq, Nat.reduceBNe, reduceCtorEq, Int.reduceLT, Int.reduceLE, Int.reduceEq, Int.reduceNe, Int.reduceBEq, Int.reduceBNe, Int.reduceAdd, Int.reduceSub, Int.reduceNeg, Int.reduceToNat, Nat.lt_irrefl]
    have hlen : ∀ x ∈ (R7.wholeC n L k (2 ^ L.length)).map ofN, sz x.length := fun x hx => by
      obtain ⟨y, hy, rfl⟩ := List.mem_map.1 hx
      have := (R7.whole_mem12 h12 ((R7.wholeC_mem h12).1 hy)).2.1
      obtain ⟨m, _, rfl⟩ := List.mem_map.1 hy
      have := ones_len m
      unfold sz; rw [ofN_length]; omega
    refine vcall_sort1 sortLaw80 (f := ints) (c := cmpL) (by simp only [go_sem, seval]; first | done | rfl) (by decide) (fun _ _ => rfl) (by rw [List.length_map]; omega) cmpL_orders (fun x hx y hy => cmpLL_spec x y ⟨hlen x hx, hlen y hy⟩) (fun l' hp' hs => ?_)
    rw [R7.sorted_whole h12 hp' hs]
    simp only [go_sem, ↓reduceIte, Nat.reduceLT, Nat.reduceLeDiff, Nat.reduceEqDiff, Nat.reduceAdd, Nat.reduceSub, Nat.reduceDiv, Nat.reduceMod, Nat.reduceMul, Nat.reduceBEq, Nat.reduceBNe, reduceCtorEq, Int.reduceLT, Int.reduceLE, Int.reduceEq, Int.reduceNe, Int.reduceBEq, Int.reduceBNe, Int.reduceAdd, Int.reduceSub, Int.reduceNeg, Int.reduceToNat]
    exact ex_le_refl rfl
noncomputable def tab_wholesL : Tab := tabOf (fun p : (Nat) × (List Int) × (Nat) => match p with | (n, L, k) => [natP n, ints L, natP k]) (fun p : (Nat) × (List Int) × (Nat) => match p with | (n, L, k) => Okl n L) (fun p : (Nat) × (List Int) × (Nat) => match p with | (n, L, k) => lists ((R7.whole n L k).map ofN))
theorem tab_wholesL_eq (n : Nat) (L : List Int) (k : Nat) : tab_wholesL [natP n, ints L, natP k] = some (Okl n L, .p (lists ((R7.whole n L k).map ofN))) := tabOf_eq (enc := fun p : (Nat) × (List Int) × (Nat) => match p with | (n, L, k) => [natP n, ints L, natP k]) (pre := fun p : (Nat) × (List Int) × (Nat) => match p with | (n, L, k) => Okl n L) (out := fun p : (Nat) × (List Int) × (Nat) => match p with | (n, L, k) => lists ((R7.whole n L k).map ofN)) (by rintro ⟨n, L, k⟩ ⟨n', L', k'⟩ h; simp at h; first | (simp [h]; done) | omega | (simp [h]; omega)) (n, L, k)
theorem tab_wholesL_ok : TabOK Tryd.prog 54 tab_wholesL := tabOf_ok (by rintro ⟨n, L, k⟩ h; exact wholesL_spec n L k h)
noncomputable abbrev ent_wholesL : FuncId × List Nat × Tab := (54, [0, 1, 0], tab_wholesL)
attribute [go_sem] tab_wholesL_eq
end Go.V
