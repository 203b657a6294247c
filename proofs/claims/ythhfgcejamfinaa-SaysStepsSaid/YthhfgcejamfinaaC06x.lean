/-
  Contract of the law SaysSteps. Conditions: none.
-/
import Derived.Test.YthhfgcejamfinaaC06w
import Derived.Test.YthhfgcejamfinaaP6z
set_option linter.unusedVariables false
set_option linter.unusedSimpArgs false
set_option linter.deprecated false
namespace Go.V
open Go.Proofs
set_option maxRecDepth 100000
set_option maxHeartbeats 4000000

theorem SaysSteps_spec (n : Int) (l : List (List Int × List Int)) (set : List Int) (fact : Int) (steps : List Int) (hpre : True) : Ret Try.prog 3 [bookP n l, ints set, intP fact, ints steps] (boolP true) := by
  refine fn_of (T := [ent_large, ent_works, ent_inner, ent_Steps6s, ent_Steps6, ent_Goes6s, ent_Goes6, ent_same]) (N := 82) (RO := [4, 9]) (CH := []) (KS := [0, 1, 2, 3, 4, 8, 9, 10, 11, 12, 13, 14, 15, 16, 17, 29]) (NS := []) (fun args w => Try.call3 args w) Try.func3 rfl rfl (by simp) mixed (by kernel_rfl) ⟨tab_large_ok, tab_works_ok, tab_inner_ok, tab_Steps6s_ok, tab_Steps6_ok, tab_Goes6s_ok, tab_Goes6_ok, tab_same_ok, trivial⟩ ?_
  simp only [go_sem, ↓reduceIte, Nat.reduceLT, Nat.reduceLeDiff, Nat.reduceEqDiff, Nat.reduceAdd, Nat.reduceMul, Nat.reduceBEq, reduceCtorEq, Int.reduceLT, Int.reduceLE, Int.reduceEq, Int.reduceNe, Int.reduceBEq, Int.reduceBNe, Int.reduceAdd, Int.reduceSub, Int.reduceNeg, Int.reduceToNat, beq_self_eq_true, Option.all_some, Option.all_none, Option.some_beq_some, Bool.and_self, List.size_toArray, cond_true, cond_false, beq_true, beq_false, bne_self_eq_false, List.append_eq]
  by_cases hg : lgB l = true
  · simp only [go_sem, ↓reduceIte, Nat.reduceLT, Nat.reduceLeDiff, Nat.reduceEqDiff, Nat.reduceAdd, Nat.reduceMul, Nat.reduceBEq, reduceCtorEq, Int.reduceLT, Int.reduceLE, Int.reduceEq, Int.reduceNe, Int.reduceBEq, Int.reduceBNe, Int.reduceAdd, Int.reduceSub, Int.reduceNeg, Int.reduceToNat, beq_self_eq_true, Option.all_some, Option.all_none, Option.some_beq_some, Bool.and_self, List.size_toArray, cond_true, cond_false, beq_true, beq_false, bne_self_eq_false, List.append_eq, hg]
    exact ex_le_refl rfl
  · have hg : lgB l = false := by simpa using hg
    have hok := lgB_ok hg
    by_cases hs : (20 : Int) < set.length
    · simp only [go_sem, ↓reduceIte, Nat.reduceLT, Nat.reduceLeDiff, Nat.reduceEqDiff, Nat.reduceAdd, Nat.reduceMul, Nat.reduceBEq, reduceCtorEq, Int.reduceLT, Int.reduceLE, Int.reduceEq, Int.reduceNe, Int.reduceBEq, Int.reduceBNe, Int.reduceAdd, Int.reduceSub, Int.reduceNeg, Int.reduceToNat, beq_self_eq_true, Option.all_some, Option.all_none, Option.some_beq_some, Bool.and_self, List.size_toArray, cond_true, cond_false, beq_true, beq_false, bne_self_eq_false, List.append_eq, hg, hs]
      exact ex_le_refl rfl
    · by_cases hp : (40 : Int) < steps.length
      · simp only [go_sem, ↓reduceIte, Nat.reduceLT, Nat.reduceLeDiff, Nat.reduceEqDiff, Nat.reduceAdd, Nat.reduceMul, Nat.reduceBEq, reduceCtorEq, Int.reduceLT, Int.reduceLE, Int.reduceEq, Int.reduceNe, Int.reduceBEq, Int.reduceBNe, Int.reduceAdd, Int.reduceSub, Int.reduceNeg, Int.reduceToNat, beq_self_eq_true, Option.all_some, Option.all_none, Option.some_beq_some, Bool.and_self, List.size_toArray, cond_true, cond_false, beq_true, beq_false, bne_self_eq_false, List.append_eq, hg, hs, hp]
        exact ex_le_refl rfl
      · have e1 := R6.stepsM_eq n l set fact
        have e2 := R6.goTop_eq n l set steps
        simp only [go_sem, ↓reduceIte, Nat.reduceLT, Nat.reduceLeDiff, Nat.reduceEqDiff, Nat.reduceAdd, Nat.reduceMul, Nat.reduceBEq, reduceCtorEq, Int.reduceLT, Int.reduceLE, Int.reduceEq, Int.reduceNe, Int.reduceBEq, Int.reduceBNe, Int.reduceAdd, Int.reduceSub, Int.reduceNeg, Int.reduceToNat, beq_self_eq_true, Option.all_some, Option.all_none, Option.some_beq_some, Bool.and_self, List.size_toArray, cond_true, cond_false, beq_true, beq_false, bne_self_eq_false, List.append_eq, hg, hs, hp, e1, e2]
        have z1 := R6.stepsTop_length n l set fact
        have z2 := R6.goesTop_length n l set steps
        have hz : sz set.length := by unfold sz; omega
        have hz2 : sz steps.length := by unfold sz; omega
        exact ⟨by unfold sz; omega, ⟨hok.2, hz⟩, ⟨hok.2, hz⟩, ⟨hok.2, hz, hz2⟩, ⟨hok.2, hz, hz2⟩, by unfold sz; omega, by unfold sz; omega, ex_le_refl rfl⟩
noncomputable def tab_SaysSteps : Tab := tabOf (fun p : (Int) × (List (List Int × List Int)) × (List Int) × (Int) × (List Int) => match p with | (n, l, set, fact, steps) => [bookP n l, ints set, intP fact, ints steps]) (fun p : (Int) × (List (List Int × List Int)) × (List Int) × (Int) × (List Int) => match p with | (n, l, set, fact, steps) => True) (fun p : (Int) × (List (List Int × List Int)) × (List Int) × (Int) × (List Int) => match p with | (n, l, set, fact, steps) => boolP true)
theorem tab_SaysSteps_eq (n : Int) (l : List (List Int × List Int)) (set : List Int) (fact : Int) (steps : List Int) : tab_SaysSteps [bookP n l, ints set, intP fact, ints steps] = some (True, .p (boolP true)) := tabOf_eq (enc := fun p : (Int) × (List (List Int × List Int)) × (List Int) × (Int) × (List Int) => match p with | (n, l, set, fact, steps) => [bookP n l, ints set, intP fact, ints steps]) (pre := fun p : (Int) × (List (List Int × List Int)) × (List Int) × (Int) × (List Int) => match p with | (n, l, set, fact, steps) => True) (out := fun p : (Int) × (List (List Int × List Int)) × (List Int) × (Int) × (List Int) => match p with | (n, l, set, fact, steps) => boolP true) (by rintro ⟨n, l, set, fact, steps⟩ ⟨n', l', set', fact', steps'⟩ h; simp at h; first | (simp [h]; done) | omega | (simp [h]; omega)) (n, l, set, fact, steps)
theorem tab_SaysSteps_ok : TabOK Try.prog 3 tab_SaysSteps := tabOf_ok (by rintro ⟨n, l, set, fact, steps⟩ h; exact SaysSteps_spec n l set fact steps h)
noncomputable abbrev ent_SaysSteps : FuncId × List Nat × Tab := (3, [2, 1, 1, 1], tab_SaysSteps)
attribute [go_sem] tab_SaysSteps_eq
end Go.V
