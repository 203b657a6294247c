/-
  Contract of the law SaysFollows. Conditions: none.
-/
import Derived.Test.YthhfgcejamfinaaGreatC06m
import Derived.Test.YthhfgcejamfinaaGreatP6n
set_option linter.unusedVariables false
set_option linter.unusedSimpArgs false
set_option linter.deprecated false
namespace Go.V
open Go.Proofs
set_option maxRecDepth 100000
set_option maxHeartbeats 4000000

theorem SaysFollows_spec (n : Int) (l : List (List Int × List Int)) (set : List Int) (hpre : True) : Ret Tryz.prog 5 [bookP n l, ints set] (boolP true) := by
  refine fn_of (T := [ent_large, ent_works, ent_inner, ent_Closed6s, ent_Closed6, ent_Follows6s, ent_Follows6, ent_All6s, ent_All6, ent_check6s, ent_check6, ent_same, ent_lists]) (N := 100) (RO := [2, 5]) (CH := [4]) (KS := [0, 1, 2, 4, 5, 6, 7, 8, 9, 10, 11, 12, 13, 14, 15, 16, 17, 24]) (NS := []) (fun args w => Tryz.call5 args w) Tryz.func5 rfl rfl (by simp) mixed (by kernel_rfl) ⟨tab_large_ok, tab_works_ok, tab_inner_ok, tab_Closed6s_ok, tab_Closed6_ok, tab_Follows6s_ok, tab_Follows6_ok, tab_All6s_ok, tab_All6_ok, tab_check6s_ok, tab_check6_ok, tab_same_ok, tab_lists_ok, trivial⟩ ?_
  simp only [go_sem, ↓reduceIte, Nat.reduceLT, Nat.reduceLeDiff, Nat.reduceEqDiff, Nat.reduceAdd, Nat.reduceMul, Nat.reduceBEq, reduceCtorEq, Int.reduceLT, Int.reduceLE, Int.reduceEq, Int.reduceNe, Int.reduceBEq, Int.reduceBNe, Int.reduceAdd, Int.reduceSub, Int.reduceNeg, Int.reduceToNat, beq_self_eq_true, Option.all_some, Option.all_none, Option.some_beq_some, Bool.and_self, List.size_toArray, cond_true, cond_false, beq_true, beq_false, bne_self_eq_false, List.append_eq]
  by_cases hg : lgB l = true
  · simp only [go_sem, ↓reduceIte, Nat.reduceLT, Nat.reduceLeDiff, Nat.reduceEqDiff, Nat.reduceAdd, Nat.reduceMul, Nat.reduceBEq, reduceCtorEq, Int.reduceLT, Int.reduceLE, Int.reduceEq, Int.reduceNe, Int.reduceBEq, Int.reduceBNe, Int.reduceAdd, Int.reduceSub, Int.reduceNeg, Int.reduceToNat, beq_self_eq_true, Option.all_some, Option.all_none, Option.some_beq_some, Bool.and_self, List.size_toArray, cond_true, cond_false, beq_true, beq_false, bne_self_eq_false, List.append_eq, hg]
    exact ex_le_refl rfl
  · have hg : lgB l = false := by simpa using hg
    have hok := lgB_ok hg
    by_cases hs : (20 : Int) < set.length
    · simp only [go_sem, ↓reduceIte, Nat.reduceLT, Nat.reduceLeDiff, Nat.reduceEqDiff, Nat.reduceAdd, Nat.reduceMul, Nat.reduceBEq, reduceCtorEq, Int.reduceLT, Int.reduceLE, Int.reduceEq, Int.reduceNe, Int.reduceBEq, Int.reduceBNe, Int.reduceAdd, Int.reduceSub, Int.reduceNeg, Int.reduceToNat, beq_self_eq_true, Option.all_some, Option.all_none, Option.some_beq_some, Bool.and_self, List.size_toArray, cond_true, cond_false, beq_true, beq_false, bne_self_eq_false, List.append_eq, hg, hs]
      exact ex_le_refl rfl
    · have e1 := R6.closed_eq n l set
      have e2 := R6.follows_eq n l set
      have e3 := R6.all_eq n l
      simp only [go_sem, ↓reduceIte, Nat.reduceLT, Nat.reduceLeDiff, Nat.reduceEqDiff, Nat.reduceAdd, Nat.reduceMul, Nat.reduceBEq, reduceCtorEq, Int.reduceLT, Int.reduceLE, Int.reduceEq, Int.reduceNe, Int.reduceBEq, Int.reduceBNe, Int.reduceAdd, Int.reduceSub, Int.reduceNeg, Int.reduceToNat, beq_self_eq_true, Option.all_some, Option.all_none, Option.some_beq_some, Bool.and_self, List.size_toArray, cond_true, cond_false, beq_true, beq_false, bne_self_eq_false, List.append_eq, hg, hs, e1, e2, e3]
      have hz : sz set.length := by unfold sz; omega
      have hz2 : sz l.length := by unfold sz; omega
      have z1 : (if R6.asked n l set = 0 then R6.followsR n l set else []).length ≤ 6 := by
        split
        · rename_i ha; exact R6.followsR_length (R6.asked_range ha).2 l set
        · simp
      have z2 : (if R6.check n l = 0 then R6.allR n l else []).length ≤ 117649 ∧ ∀ r ∈ (if R6.check n l = 0 then R6.allR n l else []), r.length ≤ 6 := by
        split
        · rename_i ha
          have := (R6.check_range ha).2
          exact ⟨R6.allR_length this l, R6.allR_row this l⟩
        · simp
      exact ⟨hz2, ⟨hok.2, hz⟩, ⟨hok.2, hz2, hz⟩, ⟨hok.2, hz⟩, ⟨hok.2, hz2, hz⟩, hok.2, ⟨hok.2, hz2⟩, by unfold sz; omega, ⟨by unfold sz; omega, fun r hr => by have := z2.2 r hr; unfold sz; omega⟩, hok.2, hok.2, ex_le_refl rfl⟩
noncomputable def tab_SaysFollows : Tab := tabOf (fun p : (Int) × (List (List Int × List Int)) × (List Int) => match p with | (n, l, set) => [bookP n l, ints set]) (fun p : (Int) × (List (List Int × List Int)) × (List Int) => match p with | (n, l, set) => True) (fun p : (Int) × (List (List Int × List Int)) × (List Int) => match p with | (n, l, set) => boolP true)
theorem tab_SaysFollows_eq (n : Int) (l : List (List Int × List Int)) (set : List Int) : tab_SaysFollows [bookP n l, ints set] = some (True, .p (boolP true)) := tabOf_eq (enc := fun p : (Int) × (List (List Int × List Int)) × (List Int) => match p with | (n, l, set) => [bookP n l, ints set]) (pre := fun p : (Int) × (List (List Int × List Int)) × (List Int) => match p with | (n, l, set) => True) (out := fun p : (Int) × (List (List Int × List Int)) × (List Int) => match p with | (n, l, set) => boolP true) (by rintro ⟨n, l, set⟩ ⟨n', l', set'⟩ h; simp at h; first | (simp [h]; done) | omega | (simp [h]; omega)) (n, l, set)
theorem tab_SaysFollows_ok : TabOK Tryz.prog 5 tab_SaysFollows := tabOf_ok (by rintro ⟨n, l, set⟩ h; exact SaysFollows_spec n l set h)
noncomputable abbrev ent_SaysFollows : FuncId × List Nat × Tab := (5, [2, 1], tab_SaysFollows)
attribute [go_sem] tab_SaysFollows_eq
end Go.V
