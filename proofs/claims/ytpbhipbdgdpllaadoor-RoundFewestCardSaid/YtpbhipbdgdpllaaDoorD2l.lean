/-
  Contracts of the law of chapter 02: RoundChecks. Conditions: none.
-/
import Derived.Test.YtpbhipbdgdpllaaDoorD2j
import Derived.Test.YtpbhipbdgdpllaaDoorC2a
set_option linter.unusedVariables false
set_option linter.unusedSimpArgs false
set_option linter.deprecated false
namespace Go.V
open Go.Proofs
set_option maxRecDepth 100000
set_option maxHeartbeats 4000000

theorem largeW_spec (n : Int) (L : List R2.EI) (hpre : True) : Ret Tryd.prog 15 [mapI n L] (boolP (decide (40 < L.length))) := by
  refine fn_of (T := []) (N := 7) (RO := [1]) (CH := []) (KS := [0, 1, 2]) (NS := []) (fun args w => Tryd.call15 args w) Tryd.func15 rfl rfl (by simp) mixed (by kernel_rfl) trivial ?_
  simp only [go_sem, ↓reduceIte, Nat.reduceLT, Nat.reduceLeDiff, Nat.reduceEqDiff, Nat.reduceAdd, Nat.reduceSub, Nat.reduceDiv, Nat.reduceMod, Nat.reduceMul, Nat.reduceBEq, Nat.reduceBNe, reduceCtorEq, Int.reduceLT, Int.reduceLE, Int.reduceEq, Int.reduceNe, Int.reduceBEq, Int.reduceBNe, Int.reduceAdd, Int.reduceSub, Int.reduceNeg, Int.reduceToNat]
  exact ex_le_refl (congrArg (fun b : Bool => boolP b) (by rw [Bool.eq_iff_iff, decide_eq_true_eq, decide_eq_true_eq]; omega))
noncomputable def tab_largeW : Tab := tabOf (fun p : (Int) × (List R2.EI) => match p with | (n, L) => [mapI n L]) (fun p : (Int) × (List R2.EI) => match p with | (n, L) => True) (fun p : (Int) × (List R2.EI) => match p with | (n, L) => boolP (decide (40 < L.length)))
theorem tab_largeW_eq (n : Int) (L : List R2.EI) : tab_largeW [mapI n L] = some (True, .p (boolP (decide (40 < L.length)))) := tabOf_eq (enc := fun p : (Int) × (List R2.EI) => match p with | (n, L) => [mapI n L]) (pre := fun p : (Int) × (List R2.EI) => match p with | (n, L) => True) (out := fun p : (Int) × (List R2.EI) => match p with | (n, L) => boolP (decide (40 < L.length))) (by rintro ⟨n, L⟩ ⟨n', L'⟩ h; simp at h; first | (simp [h]; done) | omega | (simp [h]; omega)) (n, L)
theorem tab_largeW_ok : TabOK Tryd.prog 15 tab_largeW := tabOf_ok (by rintro ⟨n, L⟩ h; exact largeW_spec n L h)
noncomputable abbrev ent_largeW : FuncId × List Nat × Tab := (15, [0], tab_largeW)
attribute [go_sem] tab_largeW_eq
theorem sz_odd (c : Int) (k : Nat) : sz (if c = 0 then ofN (R2.ones k) else []).length := by
  split
  · rw [ofN_length]; exact sz9 (ones_len k)
  · exact sz9 (Nat.zero_le _)
theorem RoundChecks_spec (n : Int) (L : List R2.EI) (l : List Int) (hpre : True) : Ret Tryd.prog 3 [mapI n L, ints l] (boolP true) := by
  by_cases h40 : 40 < L.length
  · have h := h40
    refine fn_of (T := [ent_largeW, ent_works2]) (N := 56) (RO := [2, 5]) (CH := [4]) (KS := [0, 1, 2, 4, 5, 6, 7, 8, 9, 16]) (NS := []) (fun args w => Tryd.call3 args w) Tryd.func3 rfl rfl (by simp) mixed (by kernel_rfl) ⟨tab_largeW_ok, tab_works2_ok, trivial⟩ ?_
    simp only [go_sem, ↓reduceIte, Nat.reduceLT, Nat.reduceLeDiff, Nat.reduceEqDiff, Nat.reduceAdd, Nat.reduceSub, Nat.reduceDiv, Nat.reduceMod, Nat.reduceMul, Nat.reduceBEq, Nat.reduceBNe, reduceCtorEq, Int.reduceLT, Int.reduceLE, Int.reduceEq, Int.reduceNe, Int.reduceBEq, Int.reduceBNe, Int.reduceAdd, Int.reduceSub, Int.reduceNeg, Int.reduceToNat]
    simp only [go_sem, ↓reduceIte, Nat.reduceLT, Nat.reduceLeDiff, Nat.reduceEqDiff, Nat.reduceAdd, Nat.reduceSub, Nat.reduceDiv, Nat.reduceMod, Nat.reduceMul, Nat.reduceBEq, Nat.reduceBNe, reduceCtorEq, Int.reduceLT, Int.reduceLE, Int.reduceEq, Int.reduceNe, Int.reduceBEq, Int.reduceBNe, Int.reduceAdd, Int.reduceSub, Int.reduceNeg, Int.reduceToNat, h40]
    exact ex_le_refl rfl
  · by_cases hl : (40 : Int) < l.length
    · have h := hl
      refine fn_of (T := [ent_largeW, ent_works2]) (N := 56) (RO := [2, 5]) (CH := [4]) (KS := [0, 1, 2, 4, 5, 6, 7, 8, 9, 16]) (NS := []) (fun args w => Tryd.call3 args w) Tryd.func3 rfl rfl (by simp) mixed (by kernel_rfl) ⟨tab_largeW_ok, tab_works2_ok, trivial⟩ ?_
      simp only [go_sem, ↓reduceIte, Nat.reduceLT, Nat.reduceLeDiff, Nat.reduceEqDiff, Nat.reduceAdd, Nat.reduceSub, Nat.reduceDiv, Nat.reduceMod, Nat.reduceMul, Nat.reduceBEq, Nat.reduceBNe, reduceCtorEq, Int.reduceLT, Int.reduceLE, Int.reduceEq, Int.reduceNe, Int.reduceBEq, Int.reduceBNe, Int.reduceAdd, Int.reduceSub, Int.reduceNeg, Int.reduceToNat]
      simp only [go_sem, ↓reduceIte, Nat.reduceLT, Nat.reduceLeDiff, Nat.reduceEqDiff, Nat.reduceAdd, Nat.reduceSub, Nat.reduceDiv, Nat.reduceMod, Nat.reduceMul, Nat.reduceBEq, Nat.reduceBNe, reduceCtorEq, Int.reduceLT, Int.reduceLE, Int.reduceEq, Int.reduceNe, Int.reduceBEq, Int.reduceBNe, Int.reduceAdd, Int.reduceSub, Int.reduceNeg, Int.reduceToNat, h40, hl]
      exact ex_le_refl rfl
    · have z1 : sz L.length := by unfold sz; omega
      have z2 : sz l.length := by unfold sz; omega
      have d1 : ∀ l : List Int, decide (l = l) = true := fun l => by simp
      refine fn_of (T := [ent_largeW, ent_works2, ent_odd2i, ent_oddir, ent_same2, ent_check2, ent_check2r, ent_enough2, ent_enoughr]) (N := 56) (RO := [2, 5]) (CH := [4]) (KS := [0, 1, 2, 4, 5, 6, 7, 8, 9, 16]) (NS := []) (fun args w => Tryd.call3 args w) Tryd.func3 rfl rfl (by simp) mixed (by kernel_rfl) ⟨tab_largeW_ok, tab_works2_ok, tab_odd2i_ok, tab_oddir_ok, tab_same2_ok, tab_check2_ok, tab_check2r_ok, tab_enough2_ok, tab_enoughr_ok, trivial⟩ ?_
      simp only [go_sem, ↓reduceIte, Nat.reduceLT, Nat.reduceLeDiff, Nat.reduceEqDiff, Nat.reduceAdd, Nat.reduceSub, Nat.reduceDiv, Nat.reduceMod, Nat.reduceMul, Nat.reduceBEq, Nat.reduceBNe, reduceCtorEq, Int.reduceLT, Int.reduceLE, Int.reduceEq, Int.reduceNe, Int.reduceBEq, Int.reduceBNe, Int.reduceAdd, Int.reduceSub, Int.reduceNeg, Int.reduceToNat]
      simp only [go_sem, ↓reduceIte, Nat.reduceLT, Nat.reduceLeDiff, Nat.reduceEqDiff, Nat.reduceAdd, Nat.reduceSub, Nat.reduceDiv, Nat.reduceMod, Nat.reduceMul, Nat.reduceBEq, Nat.reduceBNe, reduceCtorEq, Int.reduceLT, Int.reduceLE, Int.reduceEq, Int.reduceNe, Int.reduceBEq, Int.reduceBNe, Int.reduceAdd, Int.reduceSub, Int.reduceNeg, Int.reduceToNat, h40, hl, d1]
      exact ⟨z1, z1, ⟨sz_odd _ _, sz_odd _ _⟩, z1, z1, ⟨z1, z2⟩, ⟨z1, z2⟩, ex_le_refl rfl⟩
noncomputable def tab_RoundChecks : Tab := tabOf (fun p : (Int) × (List R2.EI) × (List Int) => match p with | (n, L, l) => [mapI n L, ints l]) (fun p : (Int) × (List R2.EI) × (List Int) => match p with | (n, L, l) => True) (fun p : (Int) × (List R2.EI) × (List Int) => match p with | (n, L, l) => boolP true)
theorem tab_RoundChecks_eq (n : Int) (L : List R2.EI) (l : List Int) : tab_RoundChecks [mapI n L, ints l] = some (True, .p (boolP true)) := tabOf_eq (enc := fun p : (Int) × (List R2.EI) × (List Int) => match p with | (n, L, l) => [mapI n L, ints l]) (pre := fun p : (Int) × (List R2.EI) × (List Int) => match p with | (n, L, l) => True) (out := fun p : (Int) × (List R2.EI) × (List Int) => match p with | (n, L, l) => boolP true) (by rintro ⟨n, L, l⟩ ⟨n', L', l'⟩ h; simp at h; first | (simp [h]; done) | omega | (simp [h]; omega)) (n, L, l)
attribute [go_sem] tab_RoundChecks_eq
end Go.V
