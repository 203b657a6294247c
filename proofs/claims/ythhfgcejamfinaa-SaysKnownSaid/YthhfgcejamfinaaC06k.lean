/-
  The examples of the chapter hold. Conditions: none.
-/
import Derived.Test.YthhfgcejamfinaaC06w
import Derived.Test.YthhfgcejamfinaaP6k
set_option linter.unusedVariables false
set_option linter.unusedSimpArgs false
set_option linter.deprecated false
namespace Go.V
open Go.Proofs
set_option maxRecDepth 100000
set_option maxHeartbeats 4000000

theorem okF : BkOK R6.bF := by unfold BkOK; decide
abbrev rowsK : PV := .list .any 1 [.list .tight 1 [intP 0], .list .tight 1 [intP 0, intP 1]]
theorem rowsK_le : Le rowsK (rowsP [[0], [0, 1]]) := Le.list (.cons Le.tight (.cons Le.tight .nil))
noncomputable def tab_listsK : Tab := tabOf (fun a : List (List Int) => [rowsP a, rowsK]) (fun a => sz a.length ∧ ∀ r ∈ a, sz r.length) (fun a => boolP (decide (a = [[0], [0, 1]])))
theorem tab_listsK_eq (a : List (List Int)) : tab_listsK [rowsP a, rowsK] = some (sz a.length ∧ ∀ r ∈ a, sz r.length, .p (boolP (decide (a = [[0], [0, 1]])))) := tabOf_eq (enc := fun a : List (List Int) => [rowsP a, rowsK]) (pre := fun a => sz a.length ∧ ∀ r ∈ a, sz r.length) (out := fun a => boolP (decide (a = [[0], [0, 1]]))) (by intro a b h; simpa using h) a
theorem tab_listsK_ok : TabOK Try.prog 19 tab_listsK := tabOf_ok (fun a h => Fn.le (lists_spec a [[0], [0, 1]] h) (.cons (Le.refl _) (.cons rowsK_le .nil)))

theorem folEq (n : Int) (l : R6.Bk) (set r : List Int) (e : Int) (hl : BkOK l) (hs : sz set.length) (h : R6.folTop n l set = r ∧ R6.asked n l set = e) : tab_Follows6s [bookP n l, ints set] = some (True, .p (.tuple [ints r, errP e])) :=
  tab_to (tab_Follows6s_eq _ _ _) ⟨hl, hs⟩ (by rw [show (if R6.asked n l set = 0 then R6.lst (R6.fol (R6.openedM n l).2 (-1) (R6.askedM n l set)) else []) = r from h.1, h.2])

theorem known_spec : Ret Try.prog 4 [] (boolP true) := by
  refine fn_of (T := [ent_exB, ent_exC, ent_exD, ent_list, ent_sentence, ent_book, ent_Follows6s, ent_All6s, ent_Steps6s, ent_Goes6s, ent_Base6s, ent_Needless6s, ent_Fewest6s, ent_Closed6s, ent_Same6s, ent_same, ent_sentences, ent_check6s, ent_works, (19, [1, 1], tab_listsK)]) (N := 368) (RO := [24, 31, 38, 55, 62, 95, 102, 109, 116, 123, 124, 125, 131, 158, 165, 172, 174, 177, 179, 182, 189, 234, 241, 248, 250, 253, 255, 258, 264, 267, 273, 280, 282, 289, 291, 304, 311, 344, 346, 349, 355, 357, 360]) (CH := []) (KS := [0, 1, 2, 3, 4, 5, 6, 7, 8, 9, 10, 11, 12, 13, 14, 15, 16, 17, 18, 19, 20, 21, 140, 270]) (NS := []) (fun args w => Try.call4 args w) Try.func4 rfl rfl (by simp) mixed (by kernel_rfl)
    ⟨tab_exB_ok, tab_exC_ok, tab_exD_ok, tab_list_ok, tab_sentence_ok, tab_book_ok, tab_Follows6s_ok, tab_All6s_ok, tab_Steps6s_ok, tab_Goes6s_ok, tab_Base6s_ok, tab_Needless6s_ok, tab_Fewest6s_ok, tab_Closed6s_ok, tab_Same6s_ok, tab_same_ok, tab_sentences_ok, tab_check6s_ok, tab_works_ok, tab_listsK_ok, trivial⟩ ?_
  have e1 := folEq 3 R6.bB [0] [0, 1, 2] 0 okB (by decide) R6.k1
  have e2 := folEq 3 R6.bB [1] [1, 2] 0 okB (by decide) R6.k2
  have e3 := folEq 4 R6.bC [0, 3] [0, 3] 0 okC (by decide) R6.k3
  have e4 := folEq 2 R6.bD [] [0] 0 okD (by decide) R6.k4
  have e19 := folEq 3 R6.bB [0, 0] [] 7 okB (by decide) ⟨by decide +kernel, R6.k19⟩
  have e20 := folEq 3 R6.bB [3] [] 2 okB (by decide) ⟨by decide +kernel, R6.k20⟩
  have e5 : tab_All6s [bookP 2 R6.bD] = some (True, .p (.tuple [rowsP [[0], [0, 1]], errP 0])) := tab_to (tab_All6s_eq _ _) okD (by rw [R6.k5.1, R6.k5.2])
  have e6 : tab_Steps6s [bookP 3 R6.bB, ints [0], intP 2] = some (True, .p (.tuple [ints [2], errP 0])) := tab_to (tab_Steps6s_eq _ _ _ _) ⟨okB, by decide⟩ (by rw [R6.k6])
  have e7 : tab_Steps6s [bookP 3 R6.bB, ints [0], intP 0] = some (True, .p (.tuple [ints [], errP 0])) := tab_to (tab_Steps6s_eq _ _ _ _) ⟨okB, by decide⟩ (by rw [R6.k7])
  have e8 : tab_Base6s [bookP 4 R6.bC] = some (True, .p (.tuple [sents [([0, 1], [2, 3]), ([2], [3])], errP 0])) := tab_to (tab_Base6s_eq _ _) okC (by rw [R6.k8.1, R6.k8.2])
  have e9 : tab_Base6s [bookP 2 R6.bD] = some (True, .p (.tuple [sents [([], [0])], errP 0])) := tab_to (tab_Base6s_eq _ _) okD (by rw [R6.k9, R6.k5.2])
  have e10 : tab_Needless6s [bookP 4 R6.bC] = some (True, .p (.tuple [ints [], errP 0])) := tab_to (tab_Needless6s_eq _ _) okC (by rw [R6.k10, R6.k8.2])
  have e11 : tab_Fewest6s [bookP 4 R6.bC, ints [2, 3]] = some (True, .p (.tuple [ints [2], errP 0])) := tab_to (tab_Fewest6s_eq _ _ _) ⟨okC, by decide⟩ (by rw [R6.k11.1, R6.k11.2])
  have e12 : tab_Fewest6s [bookP 3 R6.bB, ints [0, 2]] = some (True, .p (.tuple [ints [0], errP 0])) := tab_to (tab_Fewest6s_eq _ _ _) ⟨okB, by decide⟩ (by rw [R6.k12.1, R6.k12.2])
  have e13 : tab_Same6s [bookP 3 R6.bB, bookP 3 [([0], [1, 2]), ([1], [2])]] = some (True, .p (.tuple [boolP true, errP 0])) := tab_to (tab_Same6s_eq 3 R6.bB 3 R6.bF) ⟨okB, okF⟩ (by rw [R6.k13.1, R6.k13.2])
  have e14 : tab_Closed6s [bookP 3 R6.bB, ints [0, 1]] = some (True, .p (.tuple [boolP false, errP 0])) := tab_to (tab_Closed6s_eq _ _ _) ⟨okB, by decide⟩ (by rw [show (decide (R6.asked 3 R6.bB [0, 1] = 0) && R6.fol (R6.openedM 3 R6.bB).2 (-1) (R6.askedM 3 R6.bB [0, 1]) == R6.askedM 3 R6.bB [0, 1]) = false from R6.k14.1, R6.k14.2])
  have e15 : tab_Steps6s [bookP 4 R6.bC, ints [0, 1], intP 4] = some (True, .p (.tuple [ints [], errP 2])) := tab_to (tab_Steps6s_eq _ _ _ _) ⟨okC, by decide⟩ (by rw [R6.k15])
  have e16 : tab_Goes6s [bookP 4 R6.bC, ints [0, 1], ints [1]] = some (True, .p (.tuple [ints [], errP 12])) := tab_to (tab_Goes6s_eq _ _ _ _) ⟨okC, by decide, by decide⟩ (by rw [R6.k16])
  have e17 : tab_Goes6s [bookP 4 R6.bC, ints [0, 1], ints [2]] = some (True, .p (.tuple [ints [], errP 2])) := tab_to (tab_Goes6s_eq _ _ _ _) ⟨okC, by decide, by decide⟩ (by rw [R6.k17])
  have e18 : tab_Same6s [bookP 3 R6.bB, bookP 4 R6.bC] = some (True, .p (.tuple [boolP false, errP 5])) := tab_to (tab_Same6s_eq 3 R6.bB 4 R6.bC) ⟨okB, okC⟩ (by rw [show R6.sameM 3 R6.bB 4 R6.bC = false by simp [R6.sameM, R6.k18], R6.k18])
  have e21 : tab_check6s [bookP 7 []] = some (True, .p (errP 1)) := tab_to (tab_check6s_eq _ _) (by unfold BkOK; decide) (by rw [R6.k21])
  have e22 : tab_check6s [bookP 2 [([0], [2])]] = some (True, .p (errP 2)) := tab_to (tab_check6s_eq _ _) (by unfold BkOK; decide) (by rw [R6.k22])
  have e23 : tab_check6s [bookP 2 [([1, 0], [1])]] = some (True, .p (errP 7)) := tab_to (tab_check6s_eq _ _) (by unfold BkOK; decide) (by rw [R6.k23])
  have e24 : tab_listsK [rowsP [[0], [0, 1]], rowsK] = some (True, .p (boolP true)) := tab_to (tab_listsK_eq _) (by decide) (by simp)
  have n1 := tab_sentence_eq [] [0]
  have n2 := tab_book_eq 7 []
  simp only [bookP, ints, sents, lof_nil] at n1 n2 e4 e21
  have d1 : ∀ l : List Int, decide (l = l) = true := fun l => by simp
  have d2 : ∀ l : List (List Int × List Int), decide (l = l) = true := fun l => by simp
  simp (maxSteps := 4000000) only [go_sem, ↓reduceIte, Nat.reduceLT, Nat.reduceLeDiff, Nat.reduceEqDiff, Nat.reduceAdd, Nat.reduceMul, Nat.reduceBEq, reduceCtorEq, Int.reduceLT, Int.reduceLE, Int.reduceEq, Int.reduceNe, Int.reduceBEq, Int.reduceBNe, Int.reduceAdd, Int.reduceSub, Int.reduceNeg, Int.reduceToNat, beq_self_eq_true, Option.all_some, Option.all_none, Option.some_beq_some, Bool.and_self, List.size_toArray, cond_true, cond_false, beq_true, beq_false, bne_self_eq_false, List.append_eq, f1, f2, f3, f4, g1, g2, g3, e1, e2, e3, e4, e5, e6, e7, e8, e9, e10, e11, e12, e13, e14, e15, e16, e17, e18, e19, e20, e21, e22, e23, e24, n1, n2, d1, d2]
  refine ⟨by decide, by decide, by decide, by decide, by decide, by decide, by decide, ⟨by decide, by unfold BkOK; decide⟩, ⟨by decide, by unfold BkOK; decide⟩, ex_le_refl rfl⟩
end Go.V
