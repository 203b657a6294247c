/-
  Contract of the law SaysBases. Conditions: none.
-/
import Derived.Test.YthhfgcejamfinaaGreatC06o
import Derived.Test.YthhfgcejamfinaaGreatP6q
set_option linter.unusedVariables false
set_option linter.unusedSimpArgs false
set_option linter.deprecated false
namespace Go.V
open Go.Proofs
set_option maxRecDepth 100000
set_option maxHeartbeats 4000000

theorem SaysBases_spec (n : Int) (l : List (List Int × List Int)) (set : List Int) (hpre : True) : Ret Tryz.prog 3 [bookP n l, ints set] (boolP true) := by
  refine fn_of (T := [ent_large, ent_works, ent_inner, ent_Open6s, ent_Open6, ent_Base6s, ent_Base6, ent_same]) (N := 100) (RO := [2, 5]) (CH := []) (KS := [0, 1, 2, 4, 5, 6, 7, 8, 9, 10, 11, 12, 13, 14, 21, 66, 70, 98]) (NS := []) (fun args w => Tryz.call3 args w) Tryz.func3 rfl rfl (by simp) mixed (by kernel_rfl) ⟨tab_large_ok, tab_works_ok, tab_inner_ok, tab_Open6s_ok, tab_Open6_ok, tab_Base6s_ok, tab_Base6_ok, tab_same_ok, trivial⟩ ?_
  simp only [go_sem, ↓reduceIte, Nat.reduceLT, Nat.reduceLeDiff, Nat.reduceEqDiff, Nat.reduceAdd, Nat.reduceMul, Nat.reduceBEq, reduceCtorEq, Int.reduceLT, Int.reduceLE, Int.reduceEq, Int.reduceNe, Int.reduceBEq, Int.reduceBNe, Int.reduceAdd, Int.reduceSub, Int.reduceNeg, Int.reduceToNat, beq_self_eq_true, Option.all_some, Option.all_none, Option.some_beq_some, Bool.and_self, List.size_toArray, cond_true, cond_false, beq_true, beq_false, bne_self_eq_false, List.append_eq]
  by_cases hg : lgB l = true
  · simp only [go_sem, ↓reduceIte, Nat.reduceLT, Nat.reduceLeDiff, Nat.reduceEqDiff, Nat.reduceAdd, Nat.reduceMul, Nat.reduceBEq, reduceCtorEq, Int.reduceLT, Int.reduceLE, Int.reduceEq, Int.reduceNe, Int.reduceBEq, Int.reduceBNe, Int.reduceAdd, Int.reduceSub, Int.reduceNeg, Int.reduceToNat, beq_self_eq_true, Option.all_some, Option.all_none, Option.some_beq_some, Bool.and_self, List.size_toArray, cond_true, cond_false, beq_true, beq_false, bne_self_eq_false, List.append_eq, hg]
    exact ex_le_refl rfl
  · have hg : lgB l = false := by simpa using hg
    have hok := lgB_ok hg
    by_cases hs : (20 : Int) < set.length
    · simp only [go_sem, ↓reduceIte, Nat.reduceLT, Nat.reduceLeDiff, Nat.reduceEqDiff, Nat.reduceAdd, Nat.reduceMul, Nat.reduceBEq, reduceCtorEq, Int.reduceLT, Int.reduceLE, Int.reduceEq, Int.reduceNe, Int.reduceBEq, Int.reduceBNe, Int.reduceAdd, Int.reduceSub, Int.reduceNeg, Int.reduceToNat, beq_self_eq_true, Option.all_some, Option.all_none, Option.some_beq_some, Bool.and_self, List.size_toArray, cond_true, cond_false, beq_true, beq_false, bne_self_eq_false, List.append_eq, hg, hs]
      exact ex_le_refl rfl
    · have e1 := R6.open_eq n l set
      have e2 := R6.base_eq n l
      simp only [go_sem, ↓reduceIte, Nat.reduceLT, Nat.reduceLeDiff, Nat.reduceEqDiff, Nat.reduceAdd, Nat.reduceMul, Nat.reduceBEq, reduceCtorEq, Int.reduceLT, Int.reduceLE, Int.reduceEq, Int.reduceNe, Int.reduceBEq, Int.reduceBNe, Int.reduceAdd, Int.reduceSub, Int.reduceNeg, Int.reduceToNat, beq_self_eq_true, Option.all_some, Option.all_none, Option.some_beq_some, Bool.and_self, List.size_toArray, cond_true, cond_false, beq_true, beq_false, bne_self_eq_false, List.append_eq, hg, hs, e1, e2]
      have hz : sz set.length := by unfold sz; omega
      have hz2 : sz l.length := by unfold sz; omega
      refine ⟨hz2, ⟨hok.2, hz⟩, ⟨hok.2, hz2, hz⟩, hok.2, ⟨hok.2, hz2⟩, ?_⟩
      have hb := R6.baseR_ok n l
      clear e1 e2
      generalize (if R6.check n l = 0 then R6.baseR n l else []) = bs at *
      have d1 : ∀ l : List Int, decide (l = l) = true := fun l => by simp
      refine vfor [10,12,14] [] [] bs.length (fun k => True) (fun k => ⟨[(10,.p (sents bs)),(12,.p (sents bs)),(14,.p (natP k))], []⟩) rfl trivial ?_
      intro k hk _
      by_cases hlt : k < bs.length
      · obtain ⟨x, hx⟩ := get_some hlt
        have hxz := hb.2 x (List.mem_of_getElem? hx)
        have z1 : sz x.1.length := by unfold sz; omega
        have z2 : sz x.2.length := by unfold sz; omega
        simp only [go_sem, ↓reduceIte, Nat.reduceLT, Nat.reduceLeDiff, Nat.reduceEqDiff, Nat.reduceAdd, Nat.reduceMul, Nat.reduceBEq, reduceCtorEq, Int.reduceLT, Int.reduceLE, Int.reduceEq, Int.reduceNe, Int.reduceBEq, Int.reduceBNe, Int.reduceAdd, Int.reduceSub, Int.reduceNeg, Int.reduceToNat, beq_self_eq_true, Option.all_some, Option.all_none, Option.some_beq_some, Bool.and_self, List.size_toArray, cond_true, cond_false, beq_true, beq_false, bne_self_eq_false, List.append_eq, hlt, lof_getD hx, z1, z2, d1]
        have := hb.1
        (repeat' (first | (rw [InK_i64]; omega) | (rw [InK_u8]; omega) | (rw [InK_u64]; omega) | omega | rfl | apply And.intro))
      · simp only [go_sem, ↓reduceIte, Nat.reduceLT, Nat.reduceLeDiff, Nat.reduceEqDiff, Nat.reduceAdd, Nat.reduceMul, Nat.reduceBEq, reduceCtorEq, Int.reduceLT, Int.reduceLE, Int.reduceEq, Int.reduceNe, Int.reduceBEq, Int.reduceBNe, Int.reduceAdd, Int.reduceSub, Int.reduceNeg, Int.reduceToNat, beq_self_eq_true, Option.all_some, Option.all_none, Option.some_beq_some, Bool.and_self, List.size_toArray, cond_true, cond_false, beq_true, beq_false, bne_self_eq_false, List.append_eq, hlt]
        exact ex_le_refl rfl
noncomputable def tab_SaysBases : Tab := tabOf (fun p : (Int) × (List (List Int × List Int)) × (List Int) => match p with | (n, l, set) => [bookP n l, ints set]) (fun p : (Int) × (List (List Int × List Int)) × (List Int) => match p with | (n, l, set) => True) (fun p : (Int) × (List (List Int × List Int)) × (List Int) => match p with | (n, l, set) => boolP true)
theorem tab_SaysBases_eq (n : Int) (l : List (List Int × List Int)) (set : List Int) : tab_SaysBases [bookP n l, ints set] = some (True, .p (boolP true)) := tabOf_eq (enc := fun p : (Int) × (List (List Int × List Int)) × (List Int) => match p with | (n, l, set) => [bookP n l, ints set]) (pre := fun p : (Int) × (List (List Int × List Int)) × (List Int) => match p with | (n, l, set) => True) (out := fun p : (Int) × (List (List Int × List Int)) × (List Int) => match p with | (n, l, set) => boolP true) (by rintro ⟨n, l, set⟩ ⟨n', l', set'⟩ h; simp at h; first | (simp [h]; done) | omega | (simp [h]; omega)) (n, l, set)
theorem tab_SaysBases_ok : TabOK Tryz.prog 3 tab_SaysBases := tabOf_ok (by rintro ⟨n, l, set⟩ h; exact SaysBases_spec n l set h)
noncomputable abbrev ent_SaysBases : FuncId × List Nat × Tab := (3, [2, 1], tab_SaysBases)
attribute [go_sem] tab_SaysBases_eq
end Go.V
