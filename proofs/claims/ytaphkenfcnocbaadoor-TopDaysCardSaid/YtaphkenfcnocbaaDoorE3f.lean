/-
  Contract of chapter 03's examples: weeksWork. Conditions: none.
-/
import Derived.Test.YtaphkenfcnocbaaDoorE3e
import Derived.Test.YtaphkenfcnocbaaDoorE1b
set_option linter.unusedVariables false
set_option linter.unusedSimpArgs false
set_option linter.deprecated false
namespace Go.V
open Go.Proofs
set_option maxRecDepth 100000
set_option maxHeartbeats 4000000

theorem full012 : fullV 3 [[0, 1, 2]] = some [[0, 1, 2], [1, 2, 0], [2, 0, 1]] := by decide +kernel
theorem weeksWork_spec  (hpre : True) : Ret Tryd.prog 24 [] (boolP true) := by
  refine fn_of (T := [ent_listE, ent_sameE, ent_roundsWork]) (N := 35) (RO := [4, 5, 20, 28]) (CH := [0]) (KS := [0, 1, 2]) (NS := []) (fun args w => Tryd.call24 args w) Tryd.func24 rfl rfl (by simp) mixed (by kernel_rfl) ⟨tab_listE_ok, tab_sameE_ok, tab_roundsWork_ok, trivial⟩ ?_
  have e1 : tab_listE [PV.list LM.any 1 [intP 1, intP 2, intP 0]] = _ := tab_listE_eq [1, 2, 0]
  have e2 : tab_listE [PV.list LM.any 1 [intP 2, intP 0, intP 1]] = _ := tab_listE_eq [2, 0, 1]
  have d1 : ∀ l : List Int, decide (l = l) = true := fun l => by simp
  simp (maxSteps := 4000000) only [go_sem, ↓reduceIte, Nat.reduceLT, Nat.reduceLeDiff, Nat.reduceEqDiff, Nat.reduceAdd, Nat.reduceSub, Nat.reduceDiv, Nat.reduceMod, Nat.reduceMul, Nat.reduceBEq, Nat.reduceBNe, reduceCtorEq, Int.reduceLT, Int.reduceLE, Int.reduceEq, Int.reduceNe, Int.reduceBEq, Int.reduceBNe, Int.reduceAdd, Int.reduceSub, Int.reduceNeg, Int.reduceToNat, e1, e2, d1]
  refine vcall_pure (full3_spec 3 [[0, 1, 2]] ⟨by intro l hl x hx; simp at hl; subst hl; simp at hx; omega, by rw [full012]; rfl⟩) rfl (.cons (.refl _) (.cons (.trans .tight (.list (.cons .tight .nil))) .nil)) (by decide) ?_
  rintro x rfl
  rw [full012]
  have q1 : (lists [[0, 1, 2], [1, 2, 0], [2, 0, 1]] : PV) = .list .any 1 [ints [0, 1, 2], ints [1, 2, 0], ints [2, 0, 1]] := rfl
  simp (maxSteps := 4000000) only [go_sem, ↓reduceIte, Nat.reduceLT, Nat.reduceLeDiff, Nat.reduceEqDiff, Nat.reduceAdd, Nat.reduceSub, Nat.reduceDiv, Nat.reduceMod, Nat.reduceMul, Nat.reduceBEq, Nat.reduceBNe, reduceCtorEq, Int.reduceLT, Int.reduceLE, Int.reduceEq, Int.reduceNe, Int.reduceBEq, Int.reduceBNe, Int.reduceAdd, Int.reduceSub, Int.reduceNeg, Int.reduceToNat, e1, e2, d1, Option.getD_some, q1]
  exact ⟨by decide, by decide, ex_le_refl rfl⟩
noncomputable def tab_weeksWork : Tab := tabOf (fun p : (Unit) => match p with | _u => []) (fun p : (Unit) => match p with | _u => True) (fun p : (Unit) => match p with | _u => boolP true)
theorem tab_weeksWork_eq  : tab_weeksWork [] = some (True, .p (boolP true)) := tabOf_eq (enc := fun p : (Unit) => match p with | _u => []) (pre := fun p : (Unit) => match p with | _u => True) (out := fun p : (Unit) => match p with | _u => boolP true) (by intro a b _; rfl) ()
theorem tab_weeksWork_ok : TabOK Tryd.prog 24 tab_weeksWork := tabOf_ok (by rintro _ h; exact weeksWork_spec  h)
noncomputable abbrev ent_weeksWork : FuncId × List Nat × Tab := (24, [], tab_weeksWork)
attribute [go_sem] tab_weeksWork_eq
end Go.V
