/-
  The law's examples hold. Conditions: none.
-/
import Derived.Test.YtlkanfakfmklbaaDoorC06v
import Derived.Test.YtlkanfakfmklbaaDoorP6w
set_option linter.unusedVariables false
set_option linter.unusedSimpArgs false
set_option linter.deprecated false
namespace Go.V
open Go.Proofs
set_option maxRecDepth 100000
set_option maxHeartbeats 4000000

theorem f1 (a : Int) : PV.list .any 1 [.val (.int .i64 a)] = ints [a] := rfl
theorem f2 (a b : Int) : PV.list .any 1 [.val (.int .i64 a), .val (.int .i64 b)] = ints [a, b] := rfl
theorem f3 (a b c : Int) : PV.list .any 1 [.val (.int .i64 a), .val (.int .i64 b), .val (.int .i64 c)] = ints [a, b, c] := rfl
theorem f4 (a b c d : Int) : PV.list .any 1 [.val (.int .i64 a), .val (.int .i64 b), .val (.int .i64 c), .val (.int .i64 d)] = ints [a, b, c, d] := rfl
theorem g1 (a b : List Int) : PV.list .any 2 [.agg [.list .any 1 (lof intP a), .list .any 1 (lof intP b)]] = sents [(a, b)] := rfl
theorem g2 (a b c d : List Int) : PV.list .any 2 [.agg [.list .any 1 (lof intP a), .list .any 1 (lof intP b)], .agg [.list .any 1 (lof intP c), .list .any 1 (lof intP d)]] = sents [(a, b), (c, d)] := rfl
theorem g3 (a b c d e f : List Int) : PV.list .any 2 [.agg [.list .any 1 (lof intP a), .list .any 1 (lof intP b)], .agg [.list .any 1 (lof intP c), .list .any 1 (lof intP d)], .agg [.list .any 1 (lof intP e), .list .any 1 (lof intP f)]] = sents [(a, b), (c, d), (e, f)] := rfl
theorem tab_to {t : Tab} {args : List PV} {p : Prop} {x y : PV} (h : t args = some (p, .p x)) (hp : p) (hx : x = y) : t args = some (True, .p y) := by rw [h, hx, eq_true hp]

theorem exB_spec  (hpre : True) : Ret Tryd.prog 37 [] (bookP 3 R6.bB) := by
  refine fn_of (T := [ent_list, ent_sentence, ent_book]) (N := 18) (RO := [1, 3, 6, 8, 11, 13, 16]) (CH := []) (KS := [0]) (NS := [0]) (fun args w => Tryd.call37 args w) Tryd.func37 rfl rfl (by simp) mixed (by kernel_rfl) ⟨tab_list_ok, tab_sentence_ok, tab_book_ok, trivial⟩ ?_
  simp only [go_sem, ↓reduceIte, Nat.reduceLT, Nat.reduceLeDiff, Nat.reduceEqDiff, Nat.reduceAdd, Nat.reduceSub, Nat.reduceDiv, Nat.reduceMod, Nat.reduceMul, Nat.reduceBEq, Nat.reduceBNe, reduceCtorEq, Int.reduceLT, Int.reduceLE, Int.reduceEq, Int.reduceNe, Int.reduceBEq, Int.reduceBNe, Int.reduceAdd, Int.reduceSub, Int.reduceNeg, Int.reduceToNat, f1, f2, g1, g2, g3]
  exact ex_le_refl rfl
noncomputable def tab_exB : Tab := tabOf (fun p : (Unit) => match p with | _u => []) (fun p : (Unit) => match p with | _u => True) (fun p : (Unit) => match p with | _u => bookP 3 R6.bB)
theorem tab_exB_eq  : tab_exB [] = some (True, .p (bookP 3 R6.bB)) := tabOf_eq (enc := fun p : (Unit) => match p with | _u => []) (pre := fun p : (Unit) => match p with | _u => True) (out := fun p : (Unit) => match p with | _u => bookP 3 R6.bB) (by intro a b _; rfl) ()
theorem tab_exB_ok : TabOK Tryd.prog 37 tab_exB := tabOf_ok (by rintro _ h; exact exB_spec  h)
noncomputable abbrev ent_exB : FuncId × List Nat × Tab := (37, [], tab_exB)
attribute [go_sem] tab_exB_eq
theorem exC_spec  (hpre : True) : Ret Tryd.prog 35 [] (bookP 4 R6.bC) := by
  refine fn_of (T := [ent_list, ent_sentence, ent_book]) (N := 13) (RO := [1, 3, 6, 8, 11]) (CH := []) (KS := [0]) (NS := [0]) (fun args w => Tryd.call35 args w) Tryd.func35 rfl rfl (by simp) mixed (by kernel_rfl) ⟨tab_list_ok, tab_sentence_ok, tab_book_ok, trivial⟩ ?_
  simp only [go_sem, ↓reduceIte, Nat.reduceLT, Nat.reduceLeDiff, Nat.reduceEqDiff, Nat.reduceAdd, Nat.reduceSub, Nat.reduceDiv, Nat.reduceMod, Nat.reduceMul, Nat.reduceBEq, Nat.reduceBNe, reduceCtorEq, Int.reduceLT, Int.reduceLE, Int.reduceEq, Int.reduceNe, Int.reduceBEq, Int.reduceBNe, Int.reduceAdd, Int.reduceSub, Int.reduceNeg, Int.reduceToNat, f1, f2, g1, g2, g3]
  exact ex_le_refl rfl
noncomputable def tab_exC : Tab := tabOf (fun p : (Unit) => match p with | _u => []) (fun p : (Unit) => match p with | _u => True) (fun p : (Unit) => match p with | _u => bookP 4 R6.bC)
theorem tab_exC_eq  : tab_exC [] = some (True, .p (bookP 4 R6.bC)) := tabOf_eq (enc := fun p : (Unit) => match p with | _u => []) (pre := fun p : (Unit) => match p with | _u => True) (out := fun p : (Unit) => match p with | _u => bookP 4 R6.bC) (by intro a b _; rfl) ()
theorem tab_exC_ok : TabOK Tryd.prog 35 tab_exC := tabOf_ok (by rintro _ h; exact exC_spec  h)
noncomputable abbrev ent_exC : FuncId × List Nat × Tab := (35, [], tab_exC)
attribute [go_sem] tab_exC_eq
theorem exD_spec  (hpre : True) : Ret Tryd.prog 43 [] (bookP 2 R6.bD) := by
  refine fn_of (T := [ent_list, ent_sentence, ent_book]) (N := 6) (RO := [1, 4]) (CH := []) (KS := [0]) (NS := [0]) (fun args w => Tryd.call43 args w) Tryd.func43 rfl rfl (by simp) mixed (by kernel_rfl) ⟨tab_list_ok, tab_sentence_ok, tab_book_ok, trivial⟩ ?_
  have e := tab_sentence_eq [] [0]
  simp only [ints, lof_nil] at e
  simp only [go_sem, ↓reduceIte, Nat.reduceLT, Nat.reduceLeDiff, Nat.reduceEqDiff, Nat.reduceAdd, Nat.reduceSub, Nat.reduceDiv, Nat.reduceMod, Nat.reduceMul, Nat.reduceBEq, Nat.reduceBNe, reduceCtorEq, Int.reduceLT, Int.reduceLE, Int.reduceEq, Int.reduceNe, Int.reduceBEq, Int.reduceBNe, Int.reduceAdd, Int.reduceSub, Int.reduceNeg, Int.reduceToNat, f1, f2, g1, g2, g3, e]
  exact ex_le_refl rfl
noncomputable def tab_exD : Tab := tabOf (fun p : (Unit) => match p with | _u => []) (fun p : (Unit) => match p with | _u => True) (fun p : (Unit) => match p with | _u => bookP 2 R6.bD)
theorem tab_exD_eq  : tab_exD [] = some (True, .p (bookP 2 R6.bD)) := tabOf_eq (enc := fun p : (Unit) => match p with | _u => []) (pre := fun p : (Unit) => match p with | _u => True) (out := fun p : (Unit) => match p with | _u => bookP 2 R6.bD) (by intro a b _; rfl) ()
theorem tab_exD_ok : TabOK Tryd.prog 43 tab_exD := tabOf_ok (by rintro _ h; exact exD_spec  h)
noncomputable abbrev ent_exD : FuncId × List Nat × Tab := (43, [], tab_exD)
attribute [go_sem] tab_exD_eq

theorem okB : BkOK R6.bB := by unfold BkOK; decide
theorem okC : BkOK R6.bC := by unfold BkOK; decide
theorem okD : BkOK R6.bD := by unfold BkOK; decide
theorem okE : BkOK R6.bE := by unfold BkOK; decide
/-- rows that are written out -/
abbrev rowsW : PV := .list .any 1 [.val (.slice none 0 0), .list .tight 1 [intP 0, intP 1, intP 2], .list .tight 1 [intP 1, intP 2], .list .tight 1 [intP 2]]
theorem rowsW_le : Le rowsW (rowsP [[], [0, 1, 2], [1, 2], [2]]) := Le.list (.cons (Le.nilS _ _) (.cons Le.tight (.cons Le.tight (.cons Le.tight .nil))))
noncomputable def tab_listsW : Tab := tabOf (fun a : List (List Int) => [rowsP a, rowsW]) (fun a => sz a.length ∧ ∀ r ∈ a, sz r.length) (fun a => boolP (decide (a = [[], [0, 1, 2], [1, 2], [2]])))
theorem tab_listsW_eq (a : List (List Int)) : tab_listsW [rowsP a, rowsW] = some (sz a.length ∧ ∀ r ∈ a, sz r.length, .p (boolP (decide (a = [[], [0, 1, 2], [1, 2], [2]])))) := tabOf_eq (enc := fun a : List (List Int) => [rowsP a, rowsW]) (pre := fun a => sz a.length ∧ ∀ r ∈ a, sz r.length) (out := fun a => boolP (decide (a = [[], [0, 1, 2], [1, 2], [2]]))) (by intro a b h; simpa using h) a
theorem tab_listsW_ok : TabOK Tryd.prog 25 tab_listsW := tabOf_ok (fun a h => Fn.le (lists_spec a [[], [0, 1, 2], [1, 2], [2]] h) (.cons (Le.refl _) (.cons rowsW_le .nil)))

theorem works_spec : Ret Tryd.prog 18 [] (boolP true) := by
  refine fn_of (T := [ent_exB, ent_exC, ent_exD, ent_list, ent_sentence, ent_book, ent_Follows6s, ent_All6s, ent_Steps6s, ent_Goes6s, ent_Base6s, ent_Needless6s, ent_Fewest6s, ent_Open6s, ent_Closed6s, ent_Same6s, ent_same, ent_sentences, (25, [1, 1], tab_listsW)]) (N := 214) (RO := [20, 32, 39, 41, 80, 87, 94, 101, 108, 110, 113, 120, 149, 155, 156, 157, 158, 163, 169, 175, 177, 180, 182, 185, 190, 196]) (CH := []) (KS := [0, 1, 2, 3, 4, 5, 6, 7, 8, 9, 10, 11, 12, 13, 14, 15, 16, 17, 77]) (NS := []) (fun args w => Tryd.call18 args w) Tryd.func18 rfl rfl (by simp) mixed (by kernel_rfl)
    ⟨tab_exB_ok, tab_exC_ok, tab_exD_ok, tab_list_ok, tab_sentence_ok, tab_book_ok, tab_Follows6s_ok, tab_All6s_ok, tab_Steps6s_ok, tab_Goes6s_ok, tab_Base6s_ok, tab_Needless6s_ok, tab_Fewest6s_ok, tab_Open6s_ok, tab_Closed6s_ok, tab_Same6s_ok, tab_same_ok, tab_sentences_ok, tab_listsW_ok, trivial⟩ ?_
  have e1 : tab_Follows6s [bookP 4 R6.bC, ints [0, 1]] = some (True, .p (.tuple [ints [0, 1, 2, 3], errP 0])) := tab_to (tab_Follows6s_eq _ _ _) ⟨okC, by decide⟩ (by rw [show (if R6.asked 4 R6.bC [0, 1] = 0 then R6.lst (R6.fol (R6.openedM 4 R6.bC).2 (-1) (R6.askedM 4 R6.bC [0, 1])) else []) = [0, 1, 2, 3] from R6.w1.1, R6.w1.2])
  have e2 : tab_All6s [bookP 3 R6.bB] = some (True, .p (.tuple [rowsP [[], [0, 1, 2], [1, 2], [2]], errP 0])) := tab_to (tab_All6s_eq _ _) okB (by rw [R6.w2.1, R6.w2.2])
  have e3 : tab_Steps6s [bookP 4 R6.bC, ints [0, 1], intP 3] = some (True, .p (.tuple [ints [0, 1], errP 0])) := tab_to (tab_Steps6s_eq _ _ _ _) ⟨okC, by decide⟩ (by rw [R6.w3])
  have e4 : tab_Goes6s [bookP 4 R6.bC, ints [0, 1], ints [0, 1]] = some (True, .p (.tuple [ints [0, 1, 2, 3], errP 0])) := tab_to (tab_Goes6s_eq _ _ _ _) ⟨okC, by decide, by decide⟩ (by rw [R6.w4])
  have e5 : tab_Base6s [bookP 3 R6.bB] = some (True, .p (.tuple [sents [([0], [1, 2]), ([1], [2])], errP 0])) := tab_to (tab_Base6s_eq _ _) okB (by rw [R6.w5, R6.w2.2])
  have e6 : tab_Needless6s [bookP 3 R6.bB] = some (True, .p (.tuple [ints [2], errP 0])) := tab_to (tab_Needless6s_eq _ _) okB (by rw [R6.w6, R6.w2.2])
  have e7 : tab_Fewest6s [bookP 4 R6.bC, ints [0, 1, 2]] = some (True, .p (.tuple [ints [0, 1], errP 0])) := tab_to (tab_Fewest6s_eq _ _ _) ⟨okC, by decide⟩ (by rw [R6.w7.1, R6.w7.2])
  have e8 : tab_Open6s [bookP 3 R6.bB, ints [0]] = some (True, .p (.tuple [boolP true, errP 0])) := tab_to (tab_Open6s_eq _ _ _) ⟨okB, by decide⟩ (by rw [R6.w8.1, R6.w8.2])
  have e9 : tab_Open6s [bookP 3 R6.bB, ints [0, 1]] = some (True, .p (.tuple [boolP false, errP 0])) := tab_to (tab_Open6s_eq _ _ _) ⟨okB, by decide⟩ (by rw [R6.w9.1, R6.w9.2])
  have e10 : tab_Closed6s [bookP 2 R6.bD, ints [0]] = some (True, .p (.tuple [boolP true, errP 0])) := tab_to (tab_Closed6s_eq _ _ _) ⟨okD, by decide⟩ (by rw [show (decide (R6.asked 2 R6.bD [0] = 0) && R6.fol (R6.openedM 2 R6.bD).2 (-1) (R6.askedM 2 R6.bD [0]) == R6.askedM 2 R6.bD [0]) = true from R6.w10.1, R6.w10.2])
  have e11 : tab_Same6s [bookP 3 R6.bB, bookP 3 [([0], [1])]] = some (True, .p (.tuple [boolP false, errP 0])) := tab_to (tab_Same6s_eq 3 R6.bB 3 R6.bE) ⟨okB, okE⟩ (by rw [R6.w11.1, R6.w11.2])
  have e12 : tab_Steps6s [bookP 3 R6.bB, ints [2], intP 0] = some (True, .p (.tuple [ints [], errP 12])) := tab_to (tab_Steps6s_eq _ _ _ _) ⟨okB, by decide⟩ (by rw [R6.w12])
  have e13 : tab_listsW [rowsP [[], [0, 1, 2], [1, 2], [2]], rowsW] = some (True, .p (boolP true)) := tab_to (tab_listsW_eq _) (by decide) (by simp)
  have d1 : ∀ l : List Int, decide (l = l) = true := fun l => by simp
  have d2 : ∀ l : List (List Int × List Int), decide (l = l) = true := fun l => by simp
  have z1 : tab_sentences [sents [([0], [1, 2]), ([1], [2])], sents [([0], [1, 2]), ([1], [2])]] = some (True, .p (boolP true)) := tab_to (tab_sentences_eq _ _) ⟨by decide, by unfold BkOK; decide⟩ (by simp)
  simp (maxSteps := 4000000) only [go_sem, ↓reduceIte, Nat.reduceLT, Nat.reduceLeDiff, Nat.reduceEqDiff, Nat.reduceAdd, Nat.reduceSub, Nat.reduceDiv, Nat.reduceMod, Nat.reduceMul, Nat.reduceBEq, Nat.reduceBNe, reduceCtorEq, Int.reduceLT, Int.reduceLE, Int.reduceEq, Int.reduceNe, Int.reduceBEq, Int.reduceBNe, Int.reduceAdd, Int.reduceSub, Int.reduceNeg, Int.reduceToNat, f1, f2, f3, f4, g1, g2, g3, e1, e2, e3, e4, e5, e6, e7, e8, e9, e10, e11, e12, e13, d1, d2, z1]
  exact ⟨by decide, by decide, by decide, by decide, by decide, ex_le_refl rfl⟩
noncomputable def tab_works : Tab := tabOf (fun _ : Unit => []) (fun _ => True) (fun _ => boolP true)
theorem tab_works_eq : tab_works [] = some (True, .p (boolP true)) := tabOf_eq (enc := fun _ : Unit => []) (pre := fun _ => True) (out := fun _ => boolP true) (by intro a b _; rfl) ()
theorem tab_works_ok : TabOK Tryd.prog 18 tab_works := tabOf_ok (fun _ _ => works_spec)
noncomputable abbrev ent_works : FuncId × List Nat × Tab := (18, [], tab_works)
attribute [go_sem] tab_works_eq
end Go.V
