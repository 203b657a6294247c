/-
  Contracts of the program of chapter 05: lists are checked. Conditions: none.
-/
import Derived.Test.YtggiakaeaalioaaD5f
set_option linter.unusedVariables false
set_option linter.unusedSimpArgs false
set_option linter.deprecated false
namespace Go.V
open Go.Proofs
set_option maxRecDepth 10000
set_option maxHeartbeats 2000000

theorem le_nil_ints : Le (.val (.slice none 0 0)) (ints []) := Le.nilS _ _
theorem readB_spec (n : Nat) (L : List Int) (hpre : 1 ≤ n ∧ n ≤ 8 ∧ L.length ≤ 65536) : Ret Try.prog 74 [natP n, ints L, .func 75 []] (boolP (R5.validB n L)) := by
  refine fn_of (T := []) (N := 20) (RO := [4, 5]) (CH := []) (KS := [0, 1, 2, 4, 5, 6, 7, 8]) (NS := [7, 8]) (fun args w => Try.call74 args w) Try.func74 rfl rfl (by simp) mixed (by kernel_rfl) trivial ?_
  simp only [go_sem, ↓reduceIte, Nat.reduceLT, Nat.reduceLeDiff, Nat.reduceEqDiff, Nat.reduceAdd, Nat.reduceSub, Nat.reduceDiv, Nat.reduceMod, Nat.reduceMul, Nat.reduceBEq, Nat.reduceBNe, reduceCtorEq, Int.reduceLT, Int.reduceLE, Int.reduceEq, Int.reduceNe, Int.reduceBEq, Int.reduceBNe, Int.reduceAdd, Int.reduceSub, Int.reduceNeg, Int.reduceToNat]
  obtain ⟨h1, h8, hL⟩ := hpre
  have hr := readV_spec L hL n h1 h8 0 0 [] (by omega) (by omega) (by simp; omega)
  have eq : natP (0 + n - 1) = intP ((n : Int) - 1) := by unfold natP intP; congr 2; omega
  rw [eq, List.drop_zero] at hr
  refine ⟨by rw [InK_i64]; omega, ?_⟩
  refine vcallO [7, 8] 10000 (hr.le (.eq _ (.eq _ (.le le_nil_ints (.eq _ (.eq _ (.eq _ (.eq _ .nil)))))))) (by first | rfl | (simp only [go_sem, ↓reduceIte, Nat.reduceLT, Nat.reduceLeDiff, Nat.reduceEqDiff, Nat.reduceAdd, Nat.reduceSub, Nat.reduceDiv, Nat.reduceMod, Nat.reduceMul, Nat.reduceBEq, Nat.reduceBNe, reduceCtorEq, Int.reduceLT, Int.reduceLE, Int.reduceEq, Int.reduceNe, Int.reduceBEq, Int.reduceBNe, Int.reduceAdd, Int.reduceSub, Int.reduceNeg, Int.reduceToNat, AV.mapN, AV.mapNL, Ob.mapN, mapNL_p, cnx, canH, canH.canH1, lowE, lowH, lowL, lowN, AV.allN, AV.allNL, Ob.allN, allNL_p, okNm, okKey, okH, bkp, bk, bkH, lof_snoc_int, List.getD_cons_zero, List.getD_cons_succ]; first | done | rfl) | (simp [AV.mapN, AV.mapNL, Ob.mapN, mapNL_p, cnx, canH, canH.canH1, St.h, lowE, lowH, lowL, lowN, AV.allN, AV.allNL, Ob.allN, allNL_p, okNm, okKey, okH, bkp, bk, bkH]; done)) (by first | rfl | (simp only [go_sem, ↓reduceIte, Nat.reduceLT, Nat.reduceLeDiff, Nat.reduceEqDiff, Nat.reduceAdd, Nat.reduceSub, Nat.reduceDiv, Nat.reduceMod, Nat.reduceMul, Nat.reduceBEq, Nat.reduceBNe, reduceCtorEq, Int.reduceLT, Int.reduceLE, Int.reduceEq, Int.reduceNe, Int.reduceBEq, Int.reduceBNe, Int.reduceAdd, Int.reduceSub, Int.reduceNeg, Int.reduceToNat, AV.mapN, AV.mapNL, Ob.mapN, mapNL_p, cnx, canH, canH.canH1, lowE, lowH, lowL, lowN, AV.allN, AV.allNL, Ob.allN, allNL_p, okNm, okKey, okH, bkp, bk, bkH, lof_snoc_int, List.getD_cons_zero, List.getD_cons_succ]; first | done | rfl) | (simp [AV.mapN, AV.mapNL, Ob.mapN, mapNL_p, cnx, canH, canH.canH1, St.h, lowE, lowH, lowL, lowN, AV.allN, AV.allNL, Ob.allN, allNL_p, okNm, okKey, okH, bkp, bk, bkH]; done)) (by omega) (by first | rfl | (simp only [go_sem, ↓reduceIte, Nat.reduceLT, Nat.reduceLeDiff, Nat.reduceEqDiff, Nat.reduceAdd, Nat.reduceSub, Nat.reduceDiv, Nat.reduceMod, Nat.reduceMul, Nat.reduceBEq, Nat.reduceBNe, reduceCtorEq, Int.reduceLT, Int.reduceLE, Int.reduceEq, Int.reduceNe, Int.reduceBEq, Int.reduceBNe, Int.reduceAdd, Int.reduceSub, Int.reduceNeg, Int.reduceToNat, AV.mapN, AV.mapNL, Ob.mapN, mapNL_p, cnx, canH, canH.canH1, lowE, lowH, lowL, lowN, AV.allN, AV.allNL, Ob.allN, allNL_p, okNm, okKey, okH, bkp, bk, bkH, lof_snoc_int, List.getD_cons_zero, List.getD_cons_succ]; first | done | rfl) | (simp [AV.mapN, AV.mapNL, Ob.mapN, mapNL_p, cnx, canH, canH.canH1, St.h, lowE, lowH, lowL, lowN, AV.allN, AV.allNL, Ob.allN, allNL_p, okNm, okKey, okH, bkp, bk, bkH]; done)) ?_
  rintro x H' ⟨at1, hat1, rfl, hr⟩
  rcases hr with ⟨hp, rfl⟩ | ⟨t1, hp, rfl⟩
  · have hv : R5.validB n L = false := by
      rw [← Bool.not_eq_true, R5.valid_parse h1]
      rintro ⟨t, ht⟩; rw [hp] at ht; cases ht
    refine ⟨(by first | rfl | (simp only [go_sem, ↓reduceIte, Nat.reduceLT, Nat.reduceLeDiff, Nat.reduceEqDiff, Nat.reduceAdd, Nat.reduceSub, Nat.reduceDiv, Nat.reduceMod, Nat.reduceMul, Nat.reduceBEq, Nat.reduceBNe, reduceCtorEq, Int.reduceLT, Int.reduceLE, Int.reduceEq, Int.reduceNe, Int.reduceBEq, Int.reduceBNe, Int.reduceAdd, Int.reduceSub, Int.reduceNeg, Int.reduceToNat, AV.mapN, AV.mapNL, Ob.mapN, mapNL_p, cnx, canH, canH.canH1, lowE, lowH, lowL, lowN, AV.allN, AV.allNL, Ob.allN, allNL_p, okNm, okKey, okH, bkp, bk, bkH, lof_snoc_int, List.getD_cons_zero, List.getD_cons_succ]; first | done | rfl) | (simp [AV.mapN, AV.mapNL, Ob.mapN, mapNL_p, cnx, canH, canH.canH1, St.h, lowE, lowH, lowL, lowN, AV.allN, AV.allNL, Ob.allN, allNL_p, okNm, okKey, okH, bkp, bk, bkH]; done)), ?_⟩
    rw [hv]
    simp only [go_sem, ↓reduceIte, Nat.reduceLT, Nat.reduceLeDiff, Nat.reduceEqDiff, Nat.reduceAdd, Nat.reduceSub, Nat.reduceDiv, Nat.reduceMod, Nat.reduceMul, Nat.reduceBEq, Nat.reduceBNe, reduceCtorEq, Int.reduceLT, Int.reduceLE, Int.reduceEq, Int.reduceNe, Int.reduceBEq, Int.reduceBNe, Int.reduceAdd, Int.reduceSub, Int.reduceNeg, Int.reduceToNat, St.back, AV.mapN, AV.mapNL, Ob.mapN, mapNL_p, bk, bkp, bkH]
    exact ex_le_refl rfl
  · have hv : R5.validB n L = decide (at1 = L.length) := by
      rw [Bool.eq_iff_iff, R5.valid_parse h1, decide_eq_true_eq]
      constructor
      · rintro ⟨t, ht⟩
        rw [hp] at ht
        simp only [Option.some.injEq, Prod.mk.injEq] at ht
        have := congrArg List.length ht.2
        simp at this; omega
      · intro h
        exact ⟨t1, by rw [hp, h, List.drop_length]⟩
    refine ⟨(by first | rfl | (simp only [go_sem, ↓reduceIte, Nat.reduceLT, Nat.reduceLeDiff, Nat.reduceEqDiff, Nat.reduceAdd, Nat.reduceSub, Nat.reduceDiv, Nat.reduceMod, Nat.reduceMul, Nat.reduceBEq, Nat.reduceBNe, reduceCtorEq, Int.reduceLT, Int.reduceLE, Int.reduceEq, Int.reduceNe, Int.reduceBEq, Int.reduceBNe, Int.reduceAdd, Int.reduceSub, Int.reduceNeg, Int.reduceToNat, AV.mapN, AV.mapNL, Ob.mapN, mapNL_p, cnx, canH, canH.canH1, lowE, lowH, lowL, lowN, AV.allN, AV.allNL, Ob.allN, allNL_p, okNm, okKey, okH, bkp, bk, bkH, lof_snoc_int, List.getD_cons_zero, List.getD_cons_succ]; first | done | rfl) | (simp [AV.mapN, AV.mapNL, Ob.mapN, mapNL_p, cnx, canH, canH.canH1, St.h, lowE, lowH, lowL, lowN, AV.allN, AV.allNL, Ob.allN, allNL_p, okNm, okKey, okH, bkp, bk, bkH]; done)), ?_⟩
    rw [hv]
    have e : ((at1 : Int) == (L.length : Int)) = decide (at1 = L.length) := by
      by_cases h : at1 = L.length
      · simp [h]
      · rw [decide_eq_false h, beq_eq_false_iff_ne]; omega
    simp only [go_sem, ↓reduceIte, Nat.reduceLT, Nat.reduceLeDiff, Nat.reduceEqDiff, Nat.reduceAdd, Nat.reduceSub, Nat.reduceDiv, Nat.reduceMod, Nat.reduceMul, Nat.reduceBEq, Nat.reduceBNe, reduceCtorEq, Int.reduceLT, Int.reduceLE, Int.reduceEq, Int.reduceNe, Int.reduceBEq, Int.reduceBNe, Int.reduceAdd, Int.reduceSub, Int.reduceNeg, Int.reduceToNat, St.back, AV.mapN, AV.mapNL, Ob.mapN, mapNL_p, bk, bkp, bkH, e]
    exact ex_le_refl rfl
noncomputable def tab_readB : Tab := tabOf (fun p : (Nat) × (List Int) => match p with | (n, L) => [natP n, ints L, .func 75 []]) (fun p : (Nat) × (List Int) => match p with | (n, L) => 1 ≤ n ∧ n ≤ 8 ∧ L.length ≤ 65536) (fun p : (Nat) × (List Int) => match p with | (n, L) => boolP (R5.validB n L))
theorem tab_readB_eq (n : Nat) (L : List Int) : tab_readB [natP n, ints L, .func 75 []] = some (1 ≤ n ∧ n ≤ 8 ∧ L.length ≤ 65536, .p (boolP (R5.validB n L))) := tabOf_eq (enc := fun p : (Nat) × (List Int) => match p with | (n, L) => [natP n, ints L, .func 75 []]) (pre := fun p : (Nat) × (List Int) => match p with | (n, L) => 1 ≤ n ∧ n ≤ 8 ∧ L.length ≤ 65536) (out := fun p : (Nat) × (List Int) => match p with | (n, L) => boolP (R5.validB n L)) (by rintro ⟨n, L⟩ ⟨n', L'⟩ h; simp at h; first | (simp [h]; done) | omega | (simp [h]; omega)) (n, L)
theorem tab_readB_ok : TabOK Try.prog 74 tab_readB := tabOf_ok (by rintro ⟨n, L⟩ h; exact readB_spec n L h)
noncomputable abbrev ent_readB : FuncId × List Nat × Tab := (74, [0,1,0], tab_readB)
attribute [go_sem] tab_readB_eq

/-- the error of a list -/
def validE (k : Int) (L : List Int) : Int := if 1 ≤ k ∧ k ≤ 8 then (if R5.validB k.toNat L = true then 0 else 5) else 1
theorem Valid5_spec (k : Int) (L : List Int) (hpre : L.length ≤ 65536) : Ret Try.prog 35 [intP k, ints L] (errP (validE k L)) := by
  refine fn_of (T := [ent_within, ent_readB]) (N := 14) (RO := []) (CH := []) (KS := [0, 1, 4, 5, 9]) (NS := []) (fun args w => Try.call35 args w) Try.func35 rfl rfl (by simp) mixed (by kernel_rfl) ⟨tab_within_ok, tab_readB_ok, trivial⟩ ?_
  simp only [go_sem, ↓reduceIte, Nat.reduceLT, Nat.reduceLeDiff, Nat.reduceEqDiff, Nat.reduceAdd, Nat.reduceSub, Nat.reduceDiv, Nat.reduceMod, Nat.reduceMul, Nat.reduceBEq, Nat.reduceBNe, reduceCtorEq, Int.reduceLT, Int.reduceLE, Int.reduceEq, Int.reduceNe, Int.reduceBEq, Int.reduceBNe, Int.reduceAdd, Int.reduceSub, Int.reduceNeg, Int.reduceToNat]
  rw [inB_18]
  unfold validE
  by_cases h : 1 ≤ k ∧ k ≤ 8
  · obtain ⟨n, rfl⟩ : ∃ n : Nat, k = n := ⟨k.toNat, by omega⟩
    rw [if_pos h, show ((n : Int)).toNat = n by omega]
    cases hv : R5.validB n L with
    | true =>
      simp only [go_sem, ↓reduceIte, Nat.reduceLT, Nat.reduceLeDiff, Nat.reduceEqDiff, Nat.reduceAdd, Nat.reduceSub, Nat.reduceDiv, Nat.reduceMod, Nat.reduceMul, Nat.reduceBEq, Nat.reduceBNe, reduceCtorEq, Int.reduceLT, Int.reduceLE, Int.reduceEq, Int.reduceNe, Int.reduceBEq, Int.reduceBNe, Int.reduceAdd, Int.reduceSub, Int.reduceNeg, Int.reduceToNat, h, hv]
      (repeat with_reducible refine And.intro (by (repeat' with_reducible refine And.intro ?_ ?_) <;> first | with_reducible assumption | omega | (rw [InK_i64]; omega) | (rw [InK_u64]; omega) | (rw [InK_u8]; omega) | (unfold sz; omega) | exact True.intro) ?_)
      exact ex_le_refl rfl
    | false =>
      simp only [go_sem, ↓reduceIte, Nat.reduceLT, Nat.reduceLeDiff, Nat.reduceEqDiff, Nat.reduceAdd, Nat.reduceSub, Nat.reduceDiv, Nat.reduceMod, Nat.reduceMul, Nat.reduceBEq, Nat.reduceBNe, reduceCtorEq, Int.reduceLT, Int.reduceLE, Int.reduceEq, Int.reduceNe, Int.reduceBEq, Int.reduceBNe, Int.reduceAdd, Int.reduceSub, Int.reduceNeg, Int.reduceToNat, h, hv]
      (repeat with_reducible refine And.intro (by (repeat' with_reducible refine And.intro ?_ ?_) <;> first | with_reducible assumption | omega | (rw [InK_i64]; omega) | (rw [InK_u64]; omega) | (rw [InK_u8]; omega) | (unfold sz; omega) | exact True.intro) ?_)
      exact ex_le_refl rfl
  · rw [if_neg h]
    simp only [go_sem, ↓reduceIte, Nat.reduceLT, Nat.reduceLeDiff, Nat.reduceEqDiff, Nat.reduceAdd, Nat.reduceSub, Nat.reduceDiv, Nat.reduceMod, Nat.reduceMul, Nat.reduceBEq, Nat.reduceBNe, reduceCtorEq, Int.reduceLT, Int.reduceLE, Int.reduceEq, Int.reduceNe, Int.reduceBEq, Int.reduceBNe, Int.reduceAdd, Int.reduceSub, Int.reduceNeg, Int.reduceToNat, h]
    exact ex_le_refl rfl
noncomputable def tab_Valid5 : Tab := tabOf (fun p : (Int) × (List Int) => match p with | (k, L) => [intP k, ints L]) (fun p : (Int) × (List Int) => match p with | (k, L) => L.length ≤ 65536) (fun p : (Int) × (List Int) => match p with | (k, L) => errP (validE k L))
theorem tab_Valid5_eq (k : Int) (L : List Int) : tab_Valid5 [intP k, ints L] = some (L.length ≤ 65536, .p (errP (validE k L))) := tabOf_eq (enc := fun p : (Int) × (List Int) => match p with | (k, L) => [intP k, ints L]) (pre := fun p : (Int) × (List Int) => match p with | (k, L) => L.length ≤ 65536) (out := fun p : (Int) × (List Int) => match p with | (k, L) => errP (validE k L)) (by rintro ⟨k, L⟩ ⟨k', L'⟩ h; simp at h; first | (simp [h]; done) | omega | (simp [h]; omega)) (k, L)
theorem tab_Valid5_ok : TabOK Try.prog 35 tab_Valid5 := tabOf_ok (by rintro ⟨k, L⟩ h; exact Valid5_spec k L h)
noncomputable abbrev ent_Valid5 : FuncId × List Nat × Tab := (35, [0,1], tab_Valid5)
attribute [go_sem] tab_Valid5_eq
end Go.V
