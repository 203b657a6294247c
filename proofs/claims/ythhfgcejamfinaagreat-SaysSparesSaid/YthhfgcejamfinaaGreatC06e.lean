/-
  Contract of the law SaysSpares. Conditions: none.
-/
import Derived.Test.YthhfgcejamfinaaGreatC06p
import Derived.Test.YthhfgcejamfinaaGreatP6e
set_option linter.unusedVariables false
set_option linter.unusedSimpArgs false
set_option linter.deprecated false
namespace Go.V
open Go.Proofs
set_option maxRecDepth 100000
set_option maxHeartbeats 4000000

theorem SaysSpares_spec (n : Int) (l : List (List Int × List Int)) (m : Int) (c : List (List Int × List Int)) (set : List Int) (hpre : True) : Ret Tryz.prog 4 [bookP n l, bookP m c, ints set] (boolP true) := by
  refine fn_of (T := [ent_large, ent_works, ent_inner, ent_Needless6s, ent_Needless6, ent_Fewest6s, ent_Fewest6, ent_Same6s, ent_Same6, ent_same]) (N := 102) (RO := [3, 4]) (CH := [7, 8, 1000007, 1000008]) (KS := [0, 1, 2, 3, 4, 6, 7, 8, 9, 10, 11, 12, 13, 14, 15, 16, 17, 18, 19, 20, 31]) (NS := [7, 8]) (fun args w => Tryz.call4 args w) Tryz.func4 rfl rfl (by simp) mixed (by kernel_rfl) ⟨tab_large_ok, tab_works_ok, tab_inner_ok, tab_Needless6s_ok, tab_Needless6_ok, tab_Fewest6s_ok, tab_Fewest6_ok, tab_Same6s_ok, tab_Same6_ok, tab_same_ok, trivial⟩ ?_
  simp only [go_sem, ↓reduceIte, Nat.reduceLT, Nat.reduceLeDiff, Nat.reduceEqDiff, Nat.reduceAdd, Nat.reduceSub, Nat.reduceMul, Nat.reduceBEq, reduceCtorEq, Int.reduceLT, Int.reduceLE, Int.reduceEq, Int.reduceNe, Int.reduceBEq, Int.reduceBNe, Int.reduceAdd, Int.reduceSub, Int.reduceNeg, Int.reduceToNat, beq_self_eq_true, Option.all_some, Option.all_none, Option.some_beq_some, Bool.and_self, List.size_toArray, cond_true, cond_false, beq_true, beq_false, bne_self_eq_false, List.append_eq]
  by_cases hg : lgB l = true
  · simp only [go_sem, ↓reduceIte, Nat.reduceLT, Nat.reduceLeDiff, Nat.reduceEqDiff, Nat.reduceAdd, Nat.reduceSub, Nat.reduceMul, Nat.reduceBEq, reduceCtorEq, Int.reduceLT, Int.reduceLE, Int.reduceEq, Int.reduceNe, Int.reduceBEq, Int.reduceBNe, Int.reduceAdd, Int.reduceSub, Int.reduceNeg, Int.reduceToNat, beq_self_eq_true, Option.all_some, Option.all_none, Option.some_beq_some, Bool.and_self, List.size_toArray, cond_true, cond_false, beq_true, beq_false, bne_self_eq_false, List.append_eq, hg]
    exact ex_le_refl rfl
  · have hg : lgB l = false := by simpa using hg
    have hok := lgB_ok hg
    by_cases hg2 : lgB c = true
    · simp only [go_sem, ↓reduceIte, Nat.reduceLT, Nat.reduceLeDiff, Nat.reduceEqDiff, Nat.reduceAdd, Nat.reduceSub, Nat.reduceMul, Nat.reduceBEq, reduceCtorEq, Int.reduceLT, Int.reduceLE, Int.reduceEq, Int.reduceNe, Int.reduceBEq, Int.reduceBNe, Int.reduceAdd, Int.reduceSub, Int.reduceNeg, Int.reduceToNat, beq_self_eq_true, Option.all_some, Option.all_none, Option.some_beq_some, Bool.and_self, List.size_toArray, cond_true, cond_false, beq_true, beq_false, bne_self_eq_false, List.append_eq, hg, hg2]
      exact ex_le_refl rfl
    · have hg2 : lgB c = false := by simpa using hg2
      have hok2 := lgB_ok hg2
      by_cases hs : (20 : Int) < set.length
      · simp only [go_sem, ↓reduceIte, Nat.reduceLT, Nat.reduceLeDiff, Nat.reduceEqDiff, Nat.reduceAdd, Nat.reduceSub, Nat.reduceMul, Nat.reduceBEq, reduceCtorEq, Int.reduceLT, Int.reduceLE, Int.reduceEq, Int.reduceNe, Int.reduceBEq, Int.reduceBNe, Int.reduceAdd, Int.reduceSub, Int.reduceNeg, Int.reduceToNat, beq_self_eq_true, Option.all_some, Option.all_none, Option.some_beq_some, Bool.and_self, List.size_toArray, cond_true, cond_false, beq_true, beq_false, bne_self_eq_false, List.append_eq, hg, hg2, hs]
        exact ex_le_refl rfl
      · have e1 := R6.need_eq n l
        have e2 := R6.few_eq n l set
        have e3 := R6.same_eq n l m c
        have z1 := R6.needM_length n l
        have z2 := R6.fewM_length n l set
        have hz : sz set.length := by unfold sz; omega
        have hz2 : sz l.length := by unfold sz; omega
        have hz3 : sz c.length := by unfold sz; omega
        simp only [go_sem, ↓reduceIte, Nat.reduceLT, Nat.reduceLeDiff, Nat.reduceEqDiff, Nat.reduceAdd, Nat.reduceSub, Nat.reduceMul, Nat.reduceBEq, reduceCtorEq, Int.reduceLT, Int.reduceLE, Int.reduceEq, Int.reduceNe, Int.reduceBEq, Int.reduceBNe, Int.reduceAdd, Int.reduceSub, Int.reduceNeg, Int.reduceToNat, beq_self_eq_true, Option.all_some, Option.all_none, Option.some_beq_some, Bool.and_self, List.size_toArray, cond_true, cond_false, beq_true, beq_false, bne_self_eq_false, List.append_eq, hg, hg2, hs, e1, e2, e3]
        exact ⟨hz2, hz3, hok.2, ⟨hok.2, hz2⟩, ⟨hok.2, hz⟩, ⟨hok.2, hz2, hz⟩, ⟨hok.2, hok2.2⟩, ⟨hok.2, hz2, hok2.2, hz3⟩, by unfold sz; omega, by unfold sz; omega, ex_le_refl rfl⟩
noncomputable def tab_SaysSpares : Tab := tabOf (fun p : (Int) × (List (List Int × List Int)) × (Int) × (List (List Int × List Int)) × (List Int) => match p with | (n, l, m, c, set) => [bookP n l, bookP m c, ints set]) (fun p : (Int) × (List (List Int × List Int)) × (Int) × (List (List Int × List Int)) × (List Int) => match p with | (n, l, m, c, set) => True) (fun p : (Int) × (List (List Int × List Int)) × (Int) × (List (List Int × List Int)) × (List Int) => match p with | (n, l, m, c, set) => boolP true)
theorem tab_SaysSpares_eq (n : Int) (l : List (List Int × List Int)) (m : Int) (c : List (List Int × List Int)) (set : List Int) : tab_SaysSpares [bookP n l, bookP m c, ints set] = some (True, .p (boolP true)) := tabOf_eq (enc := fun p : (Int) × (List (List Int × List Int)) × (Int) × (List (List Int × List Int)) × (List Int) => match p with | (n, l, m, c, set) => [bookP n l, bookP m c, ints set]) (pre := fun p : (Int) × (List (List Int × List Int)) × (Int) × (List (List Int × List Int)) × (List Int) => match p with | (n, l, m, c, set) => True) (out := fun p : (Int) × (List (List Int × List Int)) × (Int) × (List (List Int × List Int)) × (List Int) => match p with | (n, l, m, c, set) => boolP true) (by rintro ⟨n, l, m, c, set⟩ ⟨n', l', m', c', set'⟩ h; simp at h; first | (simp [h]; done) | omega | (simp [h]; omega)) (n, l, m, c, set)
theorem tab_SaysSpares_ok : TabOK Tryz.prog 4 tab_SaysSpares := tabOf_ok (by rintro ⟨n, l, m, c, set⟩ h; exact SaysSpares_spec n l m c set h)
noncomputable abbrev ent_SaysSpares : FuncId × List Nat × Tab := (4, [2, 2, 1], tab_SaysSpares)
attribute [go_sem] tab_SaysSpares_eq
end Go.V
