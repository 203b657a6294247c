/-
  Contracts of the law of chapter 05: the examples hold. Conditions: none.
-/
import Derived.Test.YtggiakaeaalioaaD5n
import Derived.Test.YtggiakaeaalioaaD5e
import Derived.Test.YtggiakaeaalioaaD5j
import Derived.Test.YtggiakaeaalioaaD5l
set_option linter.unusedVariables false
set_option linter.unusedSimpArgs false
set_option linter.deprecated false
namespace Go.V
open Go.Proofs
set_option maxRecDepth 100000
set_option maxHeartbeats 4000000

theorem f1 (a : Int) : PV.list .any 1 [.val (.int .i64 a)] = ints [a] := rfl
theorem f2 (a b : Int) : PV.list .any 1 [.val (.int .i64 a), .val (.int .i64 b)] = ints [a, b] := rfl
theorem f3 (a b c : Int) : PV.list .any 1 [.val (.int .i64 a), .val (.int .i64 b), .val (.int .i64 c)] = ints [a, b, c] := rfl
theorem f4 (a b c d : Int) : PV.list .any 1 [.val (.int .i64 a), .val (.int .i64 b), .val (.int .i64 c), .val (.int .i64 d)] = ints [a, b, c, d] := rfl
theorem f9 (a b c d e f g h i : Int) : PV.list .any 1 [.val (.int .i64 a), .val (.int .i64 b), .val (.int .i64 c), .val (.int .i64 d), .val (.int .i64 e), .val (.int .i64 f), .val (.int .i64 g), .val (.int .i64 h), .val (.int .i64 i)] = ints [a, b, c, d, e, f, g, h, i] := rfl
theorem tab_rw {t : Tab} {args : List PV} {p : Prop} {x y : PV} (h : t args = some (p, .p x)) (hp : p) (hx : x = y) : t args = some (True, .p y) := by rw [h, hx, eq_true hp]

theorem exL_spec  (hpre : True) : Ret Try.prog 62 [] (ints [4, 1, 1, 4]) := by
  refine fn_of (T := [ent_list5]) (N := 3) (RO := [1]) (CH := []) (KS := [0]) (NS := []) (fun args w => Try.call62 args w) Try.func62 rfl rfl (by simp) mixed (by kernel_rfl) ⟨tab_list5_ok, trivial⟩ ?_
  simp only [go_sem, ↓reduceIte, Nat.reduceLT, Nat.reduceLeDiff, Nat.reduceEqDiff, Nat.reduceAdd, Nat.reduceSub, Nat.reduceDiv, Nat.reduceMod, Nat.reduceMul, Nat.reduceBEq, Nat.reduceBNe, reduceCtorEq, Int.reduceLT, Int.reduceLE, Int.reduceEq, Int.reduceNe, Int.reduceBEq, Int.reduceBNe, Int.reduceAdd, Int.reduceSub, Int.reduceNeg, Int.reduceToNat]
  simp only [go_sem, ↓reduceIte, Nat.reduceLT, Nat.reduceLeDiff, Nat.reduceEqDiff, Nat.reduceAdd, Nat.reduceSub, Nat.reduceDiv, Nat.reduceMod, Nat.reduceMul, Nat.reduceBEq, Nat.reduceBNe, reduceCtorEq, Int.reduceLT, Int.reduceLE, Int.reduceEq, Int.reduceNe, Int.reduceBEq, Int.reduceBNe, Int.reduceAdd, Int.reduceSub, Int.reduceNeg, Int.reduceToNat, f4]
  exact ex_le_refl rfl
noncomputable def tab_exL : Tab := tabOf (fun p : (Unit) => match p with | _u => []) (fun p : (Unit) => match p with | _u => True) (fun p : (Unit) => match p with | _u => ints [4, 1, 1, 4])
theorem tab_exL_eq  : tab_exL [] = some (True, .p (ints [4, 1, 1, 4])) := tabOf_eq (enc := fun p : (Unit) => match p with | _u => []) (pre := fun p : (Unit) => match p with | _u => True) (out := fun p : (Unit) => match p with | _u => ints [4, 1, 1, 4]) (by intro a b _; rfl) ()
theorem tab_exL_ok : TabOK Try.prog 62 tab_exL := tabOf_ok (by rintro _ h; exact exL_spec  h)
noncomputable abbrev ent_exL : FuncId × List Nat × Tab := (62, [], tab_exL)
attribute [go_sem] tab_exL_eq
theorem k5_e1 : tab_Best5 [ints [4, 1, 1, 4]] = some (True, .p (.tuple [ints [0, 2, 1], errP 0])) := tab_rw (tab_Best5_eq _) (by decide) (by rw [show bestV ([4, 1, 1, 4] : List Int) = ([0, 2, 1] : List Int) by decide +kernel, show checkL ([4, 1, 1, 4] : List Int) = 0 by decide +kernel])
theorem k5_e2 : tab_Least5 [ints [4, 1, 1, 4]] = some (True, .p (.tuple [intP 18, errP 0])) := tab_rw (tab_Least5_eq _) (by decide) (by rw [show leastV ([4, 1, 1, 4] : List Int) = 18 by decide +kernel, show checkL ([4, 1, 1, 4] : List Int) = 0 by decide +kernel])
theorem k5_e3 : tab_Count5 [ints [4, 1, 1, 4]] = some (True, .p (.tuple [intP 2, errP 0])) := tab_rw (tab_Count5_eq _) (by decide) (by rw [show countV ([4, 1, 1, 4] : List Int) = 2 by decide +kernel, show checkL ([4, 1, 1, 4] : List Int) = 0 by decide +kernel])
theorem k5_e4 : tab_Tops5 [ints [4, 1, 1, 4]] = some (True, .p (.tuple [intP 0, intP 2, errP 0])) := tab_rw (tab_Tops5_eq _) (by decide) (by rw [show firstV ([4, 1, 1, 4] : List Int) = 0 by decide +kernel, show lastV ([4, 1, 1, 4] : List Int) = 2 by decide +kernel, show topsE ([4, 1, 1, 4] : List Int) = 0 by decide +kernel])
theorem k5_e5 : tab_Any5 [ints [1, 9, 1]] = some (True, .p (.tuple [intP 13, errP 0])) := tab_rw (tab_Any5_eq _) (by decide) (by rw [show anyV ([1, 9, 1] : List Int) = 13 by decide +kernel, show checkL ([1, 9, 1] : List Int) = 0 by decide +kernel])
theorem k5_e6 : tab_Trees5 [intP 4] = some (True, .p (.tuple [intP 5, errP 0])) := tab_rw (tab_Trees5_eq _) trivial (by rw [show treesV 4 = 5 by decide +kernel, show treesE 4 = 0 by decide +kernel])
theorem k5_e7 : tab_Tree5 [intP 4, intP 2] = some (True, .p (.tuple [ints [1, 0, 2], errP 0])) := tab_rw (tab_Tree5_eq _ _) trivial (by rw [show treeV 4 2 = ([1, 0, 2] : List Int) by decide +kernel, show treeE 4 2 = 0 by decide +kernel])
theorem k5_e8 : tab_Depths5 [intP 4, ints [0, 2, 1]] = some (True, .p (.tuple [ints [1, 3, 3, 2], errP 0])) := tab_rw (tab_Depths5_eq _ _) (by decide) (by rw [show depthsV 4 ([0, 2, 1] : List Int) = ([1, 3, 3, 2] : List Int) by decide +kernel, show validE 4 ([0, 2, 1] : List Int) = 0 by decide +kernel])
theorem k5_e9 : tab_Asked5 [intP 4, ints [0, 2, 1], intP 2] = some (True, .p (.tuple [ints [0, 2, 1], errP 0])) := tab_rw (tab_Asked5_eq _ _ _) (by decide) (by rw [show askedV 4 ([0, 2, 1] : List Int) 2 = ([0, 2, 1] : List Int) by decide +kernel, show askedE 4 ([0, 2, 1] : List Int) 2 = 0 by decide +kernel])
theorem k5_e10 : tab_Quest5 [ints [1, 2, 3], ints [0, 1]] = some (True, .p (.tuple [intP 11, errP 0])) := tab_rw (tab_Quest5_eq _ _) (by decide) (by rw [show questV ([1, 2, 3] : List Int) ([0, 1] : List Int) = 11 by decide +kernel, show questE ([1, 2, 3] : List Int) ([0, 1] : List Int) = 0 by decide +kernel])
theorem k5_e11 : tab_Made5 [ints [1, 3, 3, 2]] = some (True, .p (.tuple [ints [0, 2, 1], errP 0])) := tab_rw (tab_Made5_eq _) (by decide) (by rw [show madeV ([1, 3, 3, 2] : List Int) = ([0, 2, 1] : List Int) by decide +kernel, show madeE ([1, 3, 3, 2] : List Int) = 0 by decide +kernel])
theorem k5_e12 : tab_Made5 [ints [2, 1, 2]] = some (True, .p (.tuple [ints [], errP 12])) := tab_rw (tab_Made5_eq _) (by decide) (by rw [show madeV ([2, 1, 2] : List Int) = ([] : List Int) by decide +kernel, show madeE ([2, 1, 2] : List Int) = 12 by decide +kernel])
theorem k5_e13 : tab_Tops5 [ints [7]] = some (True, .p (.tuple [intP 0, intP 0, errP 2])) := tab_rw (tab_Tops5_eq _) (by decide) (by rw [show firstV ([7] : List Int) = 0 by decide +kernel, show lastV ([7] : List Int) = 0 by decide +kernel, show topsE ([7] : List Int) = 2 by decide +kernel])
theorem k5_e14 : tab_Tree5 [intP 4, intP 5] = some (True, .p (.tuple [ints [], errP 2])) := tab_rw (tab_Tree5_eq _ _) trivial (by rw [show treeV 4 5 = ([] : List Int) by decide +kernel, show treeE 4 5 = 2 by decide +kernel])
theorem k5_e15 : tab_Valid5 [intP 3, ints [0, 1]] = some (True, .p (errP 0)) := tab_rw (tab_Valid5_eq _ _) (by decide) (by rw [show validE 3 ([0, 1] : List Int) = 0 by decide +kernel])
theorem k5_e16 : tab_Valid5 [intP 3, ints [0, 2]] = some (True, .p (errP 5)) := tab_rw (tab_Valid5_eq _ _) (by decide) (by rw [show validE 3 ([0, 2] : List Int) = 5 by decide +kernel])
theorem works_spec  (hpre : True) : Ret Try.prog 17 [] (boolP true) := by
  refine fn_of (T := [ent_exL, ent_list5, ent_same5, ent_check5, ent_Best5, ent_Least5, ent_Count5, ent_Tops5, ent_Any5, ent_Trees5, ent_Tree5, ent_Valid5, ent_Depths5, ent_Asked5, ent_Quest5, ent_Made5]) (N := 216) (RO := [42, 92, 94, 105, 111, 149, 179, 185, 191, 205, 211]) (CH := []) (KS := [0, 1, 2, 3, 4, 5, 6, 7, 8, 9, 10, 11, 12, 13, 14, 15, 16, 17, 18, 19, 80]) (NS := []) (fun args w => Try.call17 args w) Try.func17 rfl rfl (by simp) mixed (by kernel_rfl) ⟨tab_exL_ok, tab_list5_ok, tab_same5_ok, tab_check5_ok, tab_Best5_ok, tab_Least5_ok, tab_Count5_ok, tab_Tops5_ok, tab_Any5_ok, tab_Trees5_ok, tab_Tree5_ok, tab_Valid5_ok, tab_Depths5_ok, tab_Asked5_ok, tab_Quest5_ok, tab_Made5_ok, trivial⟩ ?_
  have d1 : ∀ l : List Int, decide (l = l) = true := fun l => by simp
  simp (maxSteps := 4000000) only [go_sem, ↓reduceIte, Nat.reduceLT, Nat.reduceLeDiff, Nat.reduceEqDiff, Nat.reduceAdd, Nat.reduceSub, Nat.reduceDiv, Nat.reduceMod, Nat.reduceMul, Nat.reduceBEq, Nat.reduceBNe, reduceCtorEq, Int.reduceLT, Int.reduceLE, Int.reduceEq, Int.reduceNe, Int.reduceBEq, Int.reduceBNe, Int.reduceAdd, Int.reduceSub, Int.reduceNeg, Int.reduceToNat, f1, f2, f3, f4, d1, k5_e1, k5_e2, k5_e3, k5_e4, k5_e5, k5_e6, k5_e7, k5_e8, k5_e9, k5_e10, k5_e11, k5_e12, k5_e13, k5_e14, k5_e15, k5_e16]
  (repeat with_reducible refine And.intro (by (repeat' with_reducible refine And.intro ?_ ?_) <;> first | with_reducible assumption | omega | (rw [InK_i64]; omega) | (rw [InK_u64]; omega) | (rw [InK_u8]; omega) | (unfold sz; omega) | exact True.intro) ?_)
  exact ex_le_refl rfl
noncomputable def tab_works : Tab := tabOf (fun p : (Unit) => match p with | _u => []) (fun p : (Unit) => match p with | _u => True) (fun p : (Unit) => match p with | _u => boolP true)
theorem tab_works_eq  : tab_works [] = some (True, .p (boolP true)) := tabOf_eq (enc := fun p : (Unit) => match p with | _u => []) (pre := fun p : (Unit) => match p with | _u => True) (out := fun p : (Unit) => match p with | _u => boolP true) (by intro a b _; rfl) ()
theorem tab_works_ok : TabOK Try.prog 17 tab_works := tabOf_ok (by rintro _ h; exact works_spec  h)
noncomputable abbrev ent_works : FuncId × List Nat × Tab := (17, [], tab_works)
attribute [go_sem] tab_works_eq
theorem k5_e17 : tab_Best5 [ints [1, 2, 3]] = some (True, .p (.tuple [ints [1, 0], errP 0])) := tab_rw (tab_Best5_eq _) (by decide) (by rw [show bestV ([1, 2, 3] : List Int) = ([1, 0] : List Int) by decide +kernel, show checkL ([1, 2, 3] : List Int) = 0 by decide +kernel])
theorem k5_e18 : tab_Best5 [ints [1, 1, 1]] = some (True, .p (.tuple [ints [0, 1], errP 0])) := tab_rw (tab_Best5_eq _) (by decide) (by rw [show bestV ([1, 1, 1] : List Int) = ([0, 1] : List Int) by decide +kernel, show checkL ([1, 1, 1] : List Int) = 0 by decide +kernel])
theorem k5_e19 : tab_Least5 [ints [1, 2, 3]] = some (True, .p (.tuple [intP 9, errP 0])) := tab_rw (tab_Least5_eq _) (by decide) (by rw [show leastV ([1, 2, 3] : List Int) = 9 by decide +kernel, show checkL ([1, 2, 3] : List Int) = 0 by decide +kernel])
theorem k5_e20 : tab_Least5 [ints [1, 1, 1]] = some (True, .p (.tuple [intP 5, errP 0])) := tab_rw (tab_Least5_eq _) (by decide) (by rw [show leastV ([1, 1, 1] : List Int) = 5 by decide +kernel, show checkL ([1, 1, 1] : List Int) = 0 by decide +kernel])
theorem k5_e21 : tab_Count5 [ints [1, 2, 3]] = some (True, .p (.tuple [intP 1, errP 0])) := tab_rw (tab_Count5_eq _) (by decide) (by rw [show countV ([1, 2, 3] : List Int) = 1 by decide +kernel, show checkL ([1, 2, 3] : List Int) = 0 by decide +kernel])
theorem k5_e22 : tab_Count5 [ints [1, 1, 1]] = some (True, .p (.tuple [intP 2, errP 0])) := tab_rw (tab_Count5_eq _) (by decide) (by rw [show countV ([1, 1, 1] : List Int) = 2 by decide +kernel, show checkL ([1, 1, 1] : List Int) = 0 by decide +kernel])
theorem k5_e23 : tab_Tops5 [ints [1, 2, 3]] = some (True, .p (.tuple [intP 1, intP 1, errP 0])) := tab_rw (tab_Tops5_eq _) (by decide) (by rw [show firstV ([1, 2, 3] : List Int) = 1 by decide +kernel, show lastV ([1, 2, 3] : List Int) = 1 by decide +kernel, show topsE ([1, 2, 3] : List Int) = 0 by decide +kernel])
theorem k5_e24 : tab_Least5 [ints [1, 9, 1]] = some (True, .p (.tuple [intP 21, errP 0])) := tab_rw (tab_Least5_eq _) (by decide) (by rw [show leastV ([1, 9, 1] : List Int) = 21 by decide +kernel, show checkL ([1, 9, 1] : List Int) = 0 by decide +kernel])
theorem k5_e25 : tab_Any5 [ints [1, 2, 3]] = some (True, .p (.tuple [intP 9, errP 0])) := tab_rw (tab_Any5_eq _) (by decide) (by rw [show anyV ([1, 2, 3] : List Int) = 9 by decide +kernel, show checkL ([1, 2, 3] : List Int) = 0 by decide +kernel])
theorem k5_e26 : tab_Tree5 [intP 4, intP 0] = some (True, .p (.tuple [ints [0, 1, 2], errP 0])) := tab_rw (tab_Tree5_eq _ _) trivial (by rw [show treeV 4 0 = ([0, 1, 2] : List Int) by decide +kernel, show treeE 4 0 = 0 by decide +kernel])
theorem k5_e27 : tab_Tree5 [intP 4, intP 4] = some (True, .p (.tuple [ints [2, 1, 0], errP 0])) := tab_rw (tab_Tree5_eq _ _) trivial (by rw [show treeV 4 4 = ([2, 1, 0] : List Int) by decide +kernel, show treeE 4 4 = 0 by decide +kernel])
theorem k5_e28 : tab_Tree5 [intP 1, intP 0] = some (True, .p (.tuple [ints [], errP 0])) := tab_rw (tab_Tree5_eq _ _) trivial (by rw [show treeV 1 0 = ([] : List Int) by decide +kernel, show treeE 1 0 = 0 by decide +kernel])
theorem k5_e29 : tab_Asked5 [intP 4, ints [0, 2, 1], intP 0] = some (True, .p (.tuple [ints [0], errP 0])) := tab_rw (tab_Asked5_eq _ _ _) (by decide) (by rw [show askedV 4 ([0, 2, 1] : List Int) 0 = ([0] : List Int) by decide +kernel, show askedE 4 ([0, 2, 1] : List Int) 0 = 0 by decide +kernel])
theorem k5_e30 : tab_Asked5 [intP 4, ints [0, 2, 1], intP 4] = some (True, .p (.tuple [ints [], errP 2])) := tab_rw (tab_Asked5_eq _ _ _) (by decide) (by rw [show askedV 4 ([0, 2, 1] : List Int) 4 = ([] : List Int) by decide +kernel, show askedE 4 ([0, 2, 1] : List Int) 4 = 2 by decide +kernel])
theorem k5_e31 : tab_Quest5 [ints [1, 2, 3], ints [1, 0]] = some (True, .p (.tuple [intP 9, errP 0])) := tab_rw (tab_Quest5_eq _ _) (by decide) (by rw [show questV ([1, 2, 3] : List Int) ([1, 0] : List Int) = 9 by decide +kernel, show questE ([1, 2, 3] : List Int) ([1, 0] : List Int) = 0 by decide +kernel])
theorem k5_e32 : tab_Quest5 [ints [1, 2, 3], ints [0]] = some (True, .p (.tuple [intP 0, errP 5])) := tab_rw (tab_Quest5_eq _ _) (by decide) (by rw [show questV ([1, 2, 3] : List Int) ([0] : List Int) = 0 by decide +kernel, show questE ([1, 2, 3] : List Int) ([0] : List Int) = 5 by decide +kernel])
theorem k5_e33 : tab_Made5 [ints [0]] = some (True, .p (.tuple [ints [], errP 0])) := tab_rw (tab_Made5_eq _) (by decide) (by rw [show madeV ([0] : List Int) = ([] : List Int) by decide +kernel, show madeE ([0] : List Int) = 0 by decide +kernel])
theorem k5_e34 : tab_Made5 [ints [1, 1, 1]] = some (True, .p (.tuple [ints [], errP 12])) := tab_rw (tab_Made5_eq _) (by decide) (by rw [show madeV ([1, 1, 1] : List Int) = ([] : List Int) by decide +kernel, show madeE ([1, 1, 1] : List Int) = 12 by decide +kernel])
theorem k5_e35 : tab_Made5 [ints [0, 2]] = some (True, .p (.tuple [ints [], errP 1])) := tab_rw (tab_Made5_eq _) (by decide) (by rw [show madeV ([0, 2] : List Int) = ([] : List Int) by decide +kernel, show madeE ([0, 2] : List Int) = 1 by decide +kernel])
theorem k5_e36 : tab_Valid5 [intP 3, ints [0]] = some (True, .p (errP 5)) := tab_rw (tab_Valid5_eq _ _) (by decide) (by rw [show validE 3 ([0] : List Int) = 5 by decide +kernel])
theorem k5_e37 : tab_check5 [ints []] = some (True, .p (errP 4)) := tab_rw (tab_check5_eq _) (by decide) (by rw [show checkL ([] : List Int) = 4 by decide +kernel])
theorem k5_e38 : tab_check5 [ints [0]] = some (True, .p (errP 1)) := tab_rw (tab_check5_eq _) (by decide) (by rw [show checkL ([0] : List Int) = 1 by decide +kernel])
theorem k5_e39 : tab_check5 [ints [1, 101]] = some (True, .p (errP 1)) := tab_rw (tab_check5_eq _) (by decide) (by rw [show checkL ([1, 101] : List Int) = 1 by decide +kernel])
theorem k5_e40 : tab_check5 [ints [0, 0, 0, 0, 0, 0, 0, 0, 0]] = some (True, .p (errP 3)) := tab_rw (tab_check5_eq _) (by decide) (by rw [show checkL ([0, 0, 0, 0, 0, 0, 0, 0, 0] : List Int) = 3 by decide +kernel])
theorem SieveKnown_spec  (hpre : True) : Ret Try.prog 13 [] (boolP true) := by
  refine fn_of (T := [ent_list5, ent_same5, ent_check5, ent_Best5, ent_Least5, ent_Count5, ent_Tops5, ent_Any5, ent_Trees5, ent_Tree5, ent_Valid5, ent_Depths5, ent_Asked5, ent_Quest5, ent_Made5, ent_works]) (N := 325) (RO := [33, 39, 45, 51, 57, 63, 69, 103, 110, 140, 146, 164, 170, 176, 178, 184, 186, 192, 198, 204, 265, 271, 282, 296, 306, 312]) (CH := []) (KS := [0, 1, 2, 3, 4, 5, 6, 7, 8, 9, 10, 11, 12, 13, 14, 15, 16, 17, 18, 19, 20, 21, 22, 23, 25, 26, 27, 29, 31, 138]) (NS := [318]) (fun args w => Try.call13 args w) Try.func13 rfl rfl (by simp) mixed (by kernel_rfl) ⟨tab_list5_ok, tab_same5_ok, tab_check5_ok, tab_Best5_ok, tab_Least5_ok, tab_Count5_ok, tab_Tops5_ok, tab_Any5_ok, tab_Trees5_ok, tab_Tree5_ok, tab_Valid5_ok, tab_Depths5_ok, tab_Asked5_ok, tab_Quest5_ok, tab_Made5_ok, tab_works_ok, trivial⟩ ?_
  have d1 : ∀ l : List Int, decide (l = l) = true := fun l => by simp
  have n1 := k5_e37
  simp only [ints, lof_nil] at n1
  have n2 : tab_check5 [PV.list LM.any 1 (List.replicate 9 (.val (.int .i64 0)))] = some (True, .p (errP 3)) := k5_e40
  simp (maxSteps := 4000000) only [go_sem, ↓reduceIte, Nat.reduceLT, Nat.reduceLeDiff, Nat.reduceEqDiff, Nat.reduceAdd, Nat.reduceSub, Nat.reduceDiv, Nat.reduceMod, Nat.reduceMul, Nat.reduceBEq, Nat.reduceBNe, reduceCtorEq, Int.reduceLT, Int.reduceLE, Int.reduceEq, Int.reduceNe, Int.reduceBEq, Int.reduceBNe, Int.reduceAdd, Int.reduceSub, Int.reduceNeg, Int.reduceToNat, f1, f2, f3, f4, f9, d1, n1, n2, k5_e17, k5_e18, k5_e19, k5_e20, k5_e21, k5_e22, k5_e23, k5_e24, k5_e25, k5_e26, k5_e27, k5_e28, k5_e29, k5_e30, k5_e31, k5_e32, k5_e33, k5_e34, k5_e35, k5_e36, k5_e37, k5_e38, k5_e39, k5_e40]
  (repeat with_reducible refine And.intro (by (repeat' with_reducible refine And.intro ?_ ?_) <;> first | with_reducible assumption | omega | (rw [InK_i64]; omega) | (rw [InK_u64]; omega) | (rw [InK_u8]; omega) | (unfold sz; omega) | exact True.intro) ?_)
  exact ex_le_refl rfl
noncomputable def tab_SieveKnown : Tab := tabOf (fun p : (Unit) => match p with | _u => []) (fun p : (Unit) => match p with | _u => True) (fun p : (Unit) => match p with | _u => boolP true)
theorem tab_SieveKnown_eq  : tab_SieveKnown [] = some (True, .p (boolP true)) := tabOf_eq (enc := fun p : (Unit) => match p with | _u => []) (pre := fun p : (Unit) => match p with | _u => True) (out := fun p : (Unit) => match p with | _u => boolP true) (by intro a b _; rfl) ()
theorem tab_SieveKnown_ok : TabOK Try.prog 13 tab_SieveKnown := tabOf_ok (by rintro _ h; exact SieveKnown_spec  h)
noncomputable abbrev ent_SieveKnown : FuncId × List Nat × Tab := (13, [], tab_SieveKnown)
attribute [go_sem] tab_SieveKnown_eq
end Go.V
