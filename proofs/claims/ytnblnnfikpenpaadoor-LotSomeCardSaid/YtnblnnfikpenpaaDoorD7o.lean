/-
  Contracts of the law of chapter 07: the examples hold. Conditions: none.
  LotKnown: the examples of the chapter hold. Conditions: none.
-/
import Derived.Test.YtnblnnfikpenpaaDoorD7g
set_option linter.unusedVariables false
set_option linter.unusedSimpArgs false
set_option linter.deprecated false
namespace Go.V
open Go.Proofs
set_option maxRecDepth 100000
set_option maxHeartbeats 4000000

theorem f1 (a : Int) : PV.list .any 1 [.val (.int .i64 a)] = ints [a] := rfl
theorem f2 (a b : Int) : PV.list .any 1 [.val (.int .i64 a), .val (.int .i64 b)] = ints [a, b] := rfl
theorem f3 (a b c : Int) : PV.list .any 1 [.val (.int .i64 a), .val (.int .i64 b), .val (.int .i64 c)] = ints [a, b, c] := rfl
theorem f4 (a b c d : Int) : PV.list .any 1 [.val (.int .i64 a), .val (.int .i64 b), .val (.int .i64 c), .val (.int .i64 d)] = ints [a, b, c, d] := rfl
theorem f5 (a b c d e : Int) : PV.list .any 1 [.val (.int .i64 a), .val (.int .i64 b), .val (.int .i64 c), .val (.int .i64 d), .val (.int .i64 e)] = ints [a, b, c, d, e] := rfl
theorem g1 (a : List Int) : PV.list .any 1 [.list .any 1 (lof intP a)] = lists [a] := rfl
theorem g2 (a b : List Int) : PV.list .any 1 [.list .any 1 (lof intP a), .list .any 1 (lof intP b)] = lists [a, b] := rfl
theorem tab_rw {t : Tab} {args : List PV} {p : Prop} {x y : PV} (h : t args = some (p, .p x)) (hp : p) (hx : x = y) : t args = some (True, .p y) := by rw [h, hx, eq_true hp]
def firstF : Nat → List (List Int) → Nat → Option (List (List Int))
  | 0, _, _ => none
  | _ + 1, _, 0 => some []
  | _ + 1, [], _ + 1 => none
  | f + 1, l :: w, k + 1 => match firstF f (apartL w l) k with
    | some r => some (l :: r)
    | none => firstF f w (k + 1)
theorem firstF_eq : ∀ (f : Nat) (w : List (List Int)) (k : Nat), w.length < f → firstF f w k = firstL w k
  | 0, _, _, h => absurd h (Nat.not_lt_zero _)
  | f + 1, w, 0, _ => by rw [firstL_zero]; cases w <;> rfl
  | f + 1, [], k + 1, _ => by rw [firstL_nil]; rfl
  | f + 1, l :: w, k + 1, h => by
    simp only [List.length_cons] at h
    rw [firstL_cons, ← firstF_eq f (apartL w l) k (by have := List.length_filter_le (freeB l) w; unfold apartL; omega), ← firstF_eq f w (k + 1) (by omega)]
    rfl
theorem mostM_eval {n : Nat} {L : List Int} {d : Nat} {r : List (List Int)} (hc : checkS n L = 0) (hn : 1 ≤ n) (h12 : L.length ≤ 12) (hW : ((R7.whole n L n).map ofN).length < 30) (hr : firstF 30 ((R7.whole n L n).map ofN) d = some r)
    (hd : L.length / n = d ∨ L.length / n = d + 1 ∧ firstF 30 ((R7.whole n L n).map ofN) (d + 1) = none) : mostM n L = (r, 0) := by
  rw [firstF_eq _ _ _ hW] at hr
  have h := most_found (L := L) (d := d) (r := r) hn h12 (fun k h1 h2 => by
    rcases hd with hd | ⟨hd, hd2⟩
    · omega
    · obtain rfl : k = d + 1 := by omega
      rw [firstF_eq _ _ _ hW] at hd2
      exact hd2) hr
  unfold mostM
  rw [if_pos hc, Int.toNat_natCast, h]

theorem exA_spec  (hpre : True) : Ret Tryd.prog 46 [] (ints [1, 1, 2, 2]) := by
  refine fn_of (T := [ent_list7]) (N := 3) (RO := [1]) (CH := []) (KS := [0]) (NS := []) (fun args w => Tryd.call46 args w) Tryd.func46 rfl rfl (by simp) mixed (by kernel_rfl) ⟨tab_list7_ok, trivial⟩ ?_
  simp only [go_sem, ↓reduceIte, Nat.reduceLT, Nat.reduceLeDiff, Nat.reduceEqDiff, Nat.reduceAdd, Nat.reduceSub, Nat.reduceDiv, Nat.reduceMod, Nat.reduceMul, Nat.reduceBEq, Nat.reduceBNe, reduceCtorEq, Int.reduceLT, Int.reduceLE, Int.reduceEq, Int.reduceNe, Int.reduceBEq, Int.reduceBNe, Int.reduceAdd, Int.reduceSub, Int.reduceNeg, Int.reduceToNat]
  simp only [go_sem, ↓reduceIte, Nat.reduceLT, Nat.reduceLeDiff, Nat.reduceEqDiff, Nat.reduceAdd, Nat.reduceSub, Nat.reduceDiv, Nat.reduceMod, Nat.reduceMul, Nat.reduceBEq, Nat.reduceBNe, reduceCtorEq, Int.reduceLT, Int.reduceLE, Int.reduceEq, Int.reduceNe, Int.reduceBEq, Int.reduceBNe, Int.reduceAdd, Int.reduceSub, Int.reduceNeg, Int.reduceToNat, f4]
  exact ex_le_refl rfl
noncomputable def tab_exA : Tab := tabOf (fun p : (Unit) => match p with | _u => []) (fun p : (Unit) => match p with | _u => True) (fun p : (Unit) => match p with | _u => ints [1, 1, 2, 2])
theorem tab_exA_eq  : tab_exA [] = some (True, .p (ints [1, 1, 2, 2])) := tabOf_eq (enc := fun p : (Unit) => match p with | _u => []) (pre := fun p : (Unit) => match p with | _u => True) (out := fun p : (Unit) => match p with | _u => ints [1, 1, 2, 2]) (by intro a b _; rfl) ()
theorem tab_exA_ok : TabOK Tryd.prog 46 tab_exA := tabOf_ok (by rintro _ h; exact exA_spec  h)
noncomputable abbrev ent_exA : FuncId × List Nat × Tab := (46, [], tab_exA)
attribute [go_sem] tab_exA_eq
theorem exB_spec  (hpre : True) : Ret Tryd.prog 47 [] (ints [1, 1, 2, 2, 0]) := by
  refine fn_of (T := [ent_list7]) (N := 3) (RO := [1]) (CH := []) (KS := [0]) (NS := []) (fun args w => Tryd.call47 args w) Tryd.func47 rfl rfl (by simp) mixed (by kernel_rfl) ⟨tab_list7_ok, trivial⟩ ?_
  simp only [go_sem, ↓reduceIte, Nat.reduceLT, Nat.reduceLeDiff, Nat.reduceEqDiff, Nat.reduceAdd, Nat.reduceSub, Nat.reduceDiv, Nat.reduceMod, Nat.reduceMul, Nat.reduceBEq, Nat.reduceBNe, reduceCtorEq, Int.reduceLT, Int.reduceLE, Int.reduceEq, Int.reduceNe, Int.reduceBEq, Int.reduceBNe, Int.reduceAdd, Int.reduceSub, Int.reduceNeg, Int.reduceToNat]
  simp only [go_sem, ↓reduceIte, Nat.reduceLT, Nat.reduceLeDiff, Nat.reduceEqDiff, Nat.reduceAdd, Nat.reduceSub, Nat.reduceDiv, Nat.reduceMod, Nat.reduceMul, Nat.reduceBEq, Nat.reduceBNe, reduceCtorEq, Int.reduceLT, Int.reduceLE, Int.reduceEq, Int.reduceNe, Int.reduceBEq, Int.reduceBNe, Int.reduceAdd, Int.reduceSub, Int.reduceNeg, Int.reduceToNat, f5]
  exact ex_le_refl rfl
noncomputable def tab_exB : Tab := tabOf (fun p : (Unit) => match p with | _u => []) (fun p : (Unit) => match p with | _u => True) (fun p : (Unit) => match p with | _u => ints [1, 1, 2, 2, 0])
theorem tab_exB_eq  : tab_exB [] = some (True, .p (ints [1, 1, 2, 2, 0])) := tabOf_eq (enc := fun p : (Unit) => match p with | _u => []) (pre := fun p : (Unit) => match p with | _u => True) (out := fun p : (Unit) => match p with | _u => ints [1, 1, 2, 2, 0]) (by intro a b _; rfl) ()
theorem tab_exB_ok : TabOK Tryd.prog 47 tab_exB := tabOf_ok (by rintro _ h; exact exB_spec  h)
noncomputable abbrev ent_exB : FuncId × List Nat × Tab := (47, [], tab_exB)
attribute [go_sem] tab_exB_eq
theorem k7_e1 : tab_lot7 [intP 3, ints [1, 1, 2, 2, 0]] = some (True, .p (resP (([0, 2, 4] : List Int), 0))) := tab_rw (tab_lot7_eq _ _) (by decide) (by rw [show lotM 3 ([1, 1, 2, 2, 0] : List Int) = (([0, 2, 4] : List Int), 0) by decide +kernel])
theorem k7_e2 : tab_lots7 [intP 3, ints [1, 1, 2, 2, 0]] = some (True, .p (resN (4, 0))) := tab_rw (tab_lots7_eq _ _) (by decide) (by rw [show lotsM 3 ([1, 1, 2, 2, 0] : List Int) = (4, 0) by decide +kernel])
theorem k7_e3 : tab_most7 [intP 2, ints [1, 1, 0, 0, 1]] = some (True, .p (resLL ([([0, 1] : List Int), ([2, 3] : List Int)], 0))) := tab_rw (tab_most7_eq _ _) (by decide) (by rw [show mostM 2 ([1, 1, 0, 0, 1] : List Int) = ([([0, 1] : List Int), ([2, 3] : List Int)], 0) from mostM_eval (d := 2) (by decide +kernel) (by decide) (by decide) (by decide +kernel) (by decide +kernel) (by decide +kernel)])
theorem k7_e4 : tab_two7 [intP 3, ints [1, 1, 2, 2]] = some (True, .p (res3 (1, 2, 0))) := tab_rw (tab_two7_eq _ _) (by decide) (by rw [show twoM 3 ([1, 1, 2, 2] : List Int) = (1, 2, 0) by decide +kernel])
theorem k7_e5 : tab_without7 [intP 3] = some (True, .p (resP (([0, 0, 1, 1] : List Int), 0))) := tab_rw (tab_without7_eq _) trivial (by rw [show withoutM 3 = (([0, 0, 1, 1] : List Int), 0) by decide +kernel])
theorem k7_e6 : tab_some7 [intP 3, ints [1, 2, 1]] = some (True, .p (resP (([0, 1] : List Int), 0))) := tab_rw (tab_some7_eq _ _) (by decide) (by rw [show someM 3 ([1, 2, 1] : List Int) = (([0, 1] : List Int), 0) by decide +kernel])
theorem k7_e7 : tab_row7 [intP 3, ints [1, 1, 2, 2]] = some (True, .p (res3 (0, 4, 0))) := tab_rw (tab_row7_eq _ _) (by decide) (by rw [show rowM 3 ([1, 1, 2, 2] : List Int) = (0, 4, 0) by decide +kernel])
theorem k7_e8 : tab_leaves7 [intP 3, ints [1, 1, 2, 2], intP 3] = some (True, .p (resP (([1, 2] : List Int), 0))) := tab_rw (tab_leaves7_eq _ _ _) (by decide) (by rw [show leavesM 3 ([1, 1, 2, 2] : List Int) 3 = (([1, 2] : List Int), 0) by decide +kernel])
theorem k7_e9 : tab_sums7 [intP 5, ints [0, 1], ints [0, 2]] = some (True, .p (resP (([0, 1, 2, 3] : List Int), 0))) := tab_rw (tab_sums7_eq _ _ _) (by decide) (by rw [show sumsM 5 ([0, 1] : List Int) ([0, 2] : List Int) = (([0, 1, 2, 3] : List Int), 0) by decide +kernel])
theorem k7_e10 : tab_lot7 [intP 3, ints [1, 1, 2, 2]] = some (True, .p (resP (([] : List Int), 12))) := tab_rw (tab_lot7_eq _ _) (by decide) (by rw [show lotM 3 ([1, 1, 2, 2] : List Int) = (([] : List Int), 12) by decide +kernel])
theorem k7_e11 : tab_two7 [intP 3, ints [1, 2, 0, 0]] = some (True, .p (res3 (0, 0, 13))) := tab_rw (tab_two7_eq _ _) (by decide) (by rw [show twoM 3 ([1, 2, 0, 0] : List Int) = (0, 0, 13) by decide +kernel])
theorem k7_e12 : tab_some7 [intP 3, ints [1, 1]] = some (True, .p (resP (([] : List Int), 12))) := tab_rw (tab_some7_eq _ _) (by decide) (by rw [show someM 3 ([1, 1] : List Int) = (([] : List Int), 12) by decide +kernel])
theorem k7_e13 : tab_row7 [intP 3, ints [1, 1]] = some (True, .p (res3 (0, 0, 12))) := tab_rw (tab_row7_eq _ _) (by decide) (by rw [show rowM 3 ([1, 1] : List Int) = (0, 0, 12) by decide +kernel])
theorem k7_e14 : tab_proves7 [intP 3, ints [1, 1, 2, 2, 0], ints [0, 2, 4]] = some (True, .p (errP 0)) := tab_rw (tab_proves7_eq _ _ _) (by decide) (by rw [show provesM 3 ([1, 1, 2, 2, 0] : List Int) ([0, 2, 4] : List Int) = 0 by decide +kernel])
theorem k7_e15 : tab_proves7 [intP 3, ints [1, 1, 2, 2, 0], ints [0, 1, 2]] = some (True, .p (errP 14)) := tab_rw (tab_proves7_eq _ _ _) (by decide) (by rw [show provesM 3 ([1, 1, 2, 2, 0] : List Int) ([0, 1, 2] : List Int) = 14 by decide +kernel])
theorem works_spec  (hpre : True) : Ret Tryd.prog 16 [] (boolP true) := by
  refine fn_of (T := [ent_exA, ent_exB, ent_list7, ent_same7, ent_check7, ent_lot7, ent_lots7, ent_most7, ent_proves7, ent_two7, ent_without7, ent_some7, ent_row7, ent_leaves7, ent_sums7]) (N := 214) (RO := [30, 46, 89, 91, 102, 109, 115, 145, 155, 156, 157, 170, 176, 190, 196, 202, 209]) (CH := []) (KS := [0, 1, 2, 3, 4, 5, 6, 7, 8, 9, 10, 11, 12, 13, 14, 15, 16, 17, 18, 82]) (NS := []) (fun args w => Tryd.call16 args w) Tryd.func16 rfl rfl (by simp) mixed (by kernel_rfl) ⟨tab_exA_ok, tab_exB_ok, tab_list7_ok, tab_same7_ok, tab_check7_ok, tab_lot7_ok, tab_lots7_ok, tab_most7_ok, tab_proves7_ok, tab_two7_ok, tab_without7_ok, tab_some7_ok, tab_row7_ok, tab_leaves7_ok, tab_sums7_ok, trivial⟩ ?_
  have d1 : ∀ l : List Int, decide (l = l) = true := fun l => by simp
  have d2 : ∀ l : List (List Int), decide (l = l) = true := fun l => by simp
  have z3 : sz 3 := by unfold sz; omega
  have z2 : sz 2 := by unfold sz; omega
  have z4 : sz 4 := by unfold sz; omega
  have hl : (sz ([[0, 1], [2, 3]] : List (List Int)).length ∧ sz ([[0, 1], [2, 3]] : List (List Int)).length) ∧ (∀ x ∈ ([[0, 1], [2, 3]] : List (List Int)), sz x.length) ∧ ∀ x ∈ ([[0, 1], [2, 3]] : List (List Int)), sz x.length := by decide
  simp (maxSteps := 4000000) only [go_sem, ↓reduceIte, Nat.reduceLT, Nat.reduceLeDiff, Nat.reduceEqDiff, Nat.reduceAdd, Nat.reduceSub, Nat.reduceDiv, Nat.reduceMod, Nat.reduceMul, Nat.reduceBEq, Nat.reduceBNe, reduceCtorEq, Int.reduceLT, Int.reduceLE, Int.reduceEq, Int.reduceNe, Int.reduceBEq, Int.reduceBNe, Int.reduceAdd, Int.reduceSub, Int.reduceNeg, Int.reduceToNat, f1, f2, f3, f4, f5, g1, g2, d1, d2, k7_e1, k7_e2, k7_e3, k7_e4, k7_e5, k7_e6, k7_e7, k7_e8, k7_e9, k7_e10, k7_e11, k7_e12, k7_e13, k7_e14, k7_e15]
  (repeat with_reducible refine And.intro (by (repeat' with_reducible refine And.intro ?_ ?_) <;> first | with_reducible assumption | omega | (simp only [InK_i64, InK_u64, InK_u8]; omega) | (unfold sz; omega) | exact True.intro) ?_)
  refine vret_pure (lists7_spec [[0, 1], [2, 3]] [[0, 1], [2, 3]] hl) rfl (LeL.cons (Le.refl _) (LeL.cons (Le.list (LeL.cons Le.tight (LeL.cons Le.tight LeL.nil))) LeL.nil)) (by decide) ?_
  simp (maxSteps := 4000000) only [go_sem, ↓reduceIte, Nat.reduceLT, Nat.reduceLeDiff, Nat.reduceEqDiff, Nat.reduceAdd, Nat.reduceSub, Nat.reduceDiv, Nat.reduceMod, Nat.reduceMul, Nat.reduceBEq, Nat.reduceBNe, reduceCtorEq, Int.reduceLT, Int.reduceLE, Int.reduceEq, Int.reduceNe, Int.reduceBEq, Int.reduceBNe, Int.reduceAdd, Int.reduceSub, Int.reduceNeg, Int.reduceToNat, f1, f2, f3, f4, f5, g1, g2, d1, d2, k7_e1, k7_e2, k7_e3, k7_e4, k7_e5, k7_e6, k7_e7, k7_e8, k7_e9, k7_e10, k7_e11, k7_e12, k7_e13, k7_e14, k7_e15]
  (repeat with_reducible refine And.intro (by (repeat' with_reducible refine And.intro ?_ ?_) <;> first | with_reducible assumption | omega | (simp only [InK_i64, InK_u64, InK_u8]; omega) | (unfold sz; omega) | exact True.intro) ?_)
  exact ex_le_refl rfl
noncomputable def tab_works : Tab := tabOf (fun p : (Unit) => match p with | _u => []) (fun p : (Unit) => match p with | _u => True) (fun p : (Unit) => match p with | _u => boolP true)
theorem tab_works_eq  : tab_works [] = some (True, .p (boolP true)) := tabOf_eq (enc := fun p : (Unit) => match p with | _u => []) (pre := fun p : (Unit) => match p with | _u => True) (out := fun p : (Unit) => match p with | _u => boolP true) (by intro a b _; rfl) ()
theorem tab_works_ok : TabOK Tryd.prog 16 tab_works := tabOf_ok (by rintro _ h; exact works_spec  h)
noncomputable abbrev ent_works : FuncId × List Nat × Tab := (16, [], tab_works)
attribute [go_sem] tab_works_eq
end Go.V

namespace Go.V
open Go.Proofs
set_option maxRecDepth 100000
set_option maxHeartbeats 4000000

theorem k7_e16 : tab_lot7 [intP 1, ints [5]] = some (True, .p (resP (([0] : List Int), 0))) := tab_rw (tab_lot7_eq _ _) (by decide) (by rw [show lotM 1 ([5] : List Int) = (([0] : List Int), 0) by decide +kernel])
theorem k7_e17 : tab_lots7 [intP 3, ints [1, 1, 2, 2]] = some (True, .p (resN (0, 0))) := tab_rw (tab_lots7_eq _ _) (by decide) (by rw [show lotsM 3 ([1, 1, 2, 2] : List Int) = (0, 0) by decide +kernel])
theorem k7_e18 : tab_most7 [intP 3, ints [1, 1, 2, 2, 0]] = some (True, .p (resLL ([([0, 2, 4] : List Int)], 0))) := tab_rw (tab_most7_eq _ _) (by decide) (by rw [show mostM 3 ([1, 1, 2, 2, 0] : List Int) = ([([0, 2, 4] : List Int)], 0) from mostM_eval (d := 1) (by decide +kernel) (by decide) (by decide) (by decide +kernel) (by decide +kernel) (by decide +kernel)])
theorem k7_e19 : tab_most7 [intP 3, ints [1, 1, 2, 2]] = some (True, .p (resLL ([], 0))) := tab_rw (tab_most7_eq _ _) (by decide) (by rw [show mostM 3 ([1, 1, 2, 2] : List Int) = ([], 0) from mostM_eval (d := 0) (by decide +kernel) (by decide) (by decide) (by decide +kernel) (by decide +kernel) (by decide +kernel)])
theorem k7_e20 : tab_without7 [intP 1] = some (True, .p (resP (([] : List Int), 0))) := tab_rw (tab_without7_eq _) trivial (by rw [show withoutM 1 = (([] : List Int), 0) by decide +kernel])
theorem k7_e21 : tab_some7 [intP 3, ints [1, 1, 1]] = some (True, .p (resP (([0, 1, 2] : List Int), 0))) := tab_rw (tab_some7_eq _ _) (by decide) (by rw [show someM 3 ([1, 1, 1] : List Int) = (([0, 1, 2] : List Int), 0) by decide +kernel])
theorem k7_e22 : tab_some7 [intP 3, ints [1, 0]] = some (True, .p (resP (([1] : List Int), 0))) := tab_rw (tab_some7_eq _ _) (by decide) (by rw [show someM 3 ([1, 0] : List Int) = (([1] : List Int), 0) by decide +kernel])
theorem k7_e23 : tab_two7 [intP 3, ints [1, 1, 2, 2, 0]] = some (True, .p (res3 (0, 0, 5))) := tab_rw (tab_two7_eq _ _) (by decide) (by rw [show twoM 3 ([1, 1, 2, 2, 0] : List Int) = (0, 0, 5) by decide +kernel])
theorem k7_e24 : tab_two7 [intP 1, ints []] = some (True, .p (res3 (0, 0, 5))) := tab_rw (tab_two7_eq _ _) (by decide) (by rw [show twoM 1 ([] : List Int) = (0, 0, 5) by decide +kernel])
theorem k7_e25 : tab_without7 [intP 7] = some (True, .p (resP (([] : List Int), 1))) := tab_rw (tab_without7_eq _) trivial (by rw [show withoutM 7 = (([] : List Int), 1) by decide +kernel])
theorem k7_e26 : tab_row7 [intP 3, ints [2, 1, 1]] = some (True, .p (res3 (0, 2, 0))) := tab_rw (tab_row7_eq _ _) (by decide) (by rw [show rowM 3 ([2, 1, 1] : List Int) = (0, 2, 0) by decide +kernel])
theorem k7_e27 : tab_leaves7 [intP 3, ints [1, 1, 2, 2], intP 2] = some (True, .p (resP (([0, 1, 2] : List Int), 0))) := tab_rw (tab_leaves7_eq _ _ _) (by decide) (by rw [show leavesM 3 ([1, 1, 2, 2] : List Int) 2 = (([0, 1, 2] : List Int), 0) by decide +kernel])
theorem k7_e28 : tab_leaves7 [intP 3, ints [1, 1, 2, 2], intP 5] = some (True, .p (resP (([] : List Int), 2))) := tab_rw (tab_leaves7_eq _ _ _) (by decide) (by rw [show leavesM 3 ([1, 1, 2, 2] : List Int) 5 = (([] : List Int), 2) by decide +kernel])
theorem k7_e29 : tab_sums7 [intP 5, ints [], ints [1]] = some (True, .p (resP (([] : List Int), 0))) := tab_rw (tab_sums7_eq _ _ _) (by decide) (by rw [show sumsM 5 ([] : List Int) ([1] : List Int) = (([] : List Int), 0) by decide +kernel])
theorem k7_e30 : tab_proves7 [intP 3, ints [1, 1, 2, 2, 0], ints [0, 2]] = some (True, .p (errP 5)) := tab_rw (tab_proves7_eq _ _ _) (by decide) (by rw [show provesM 3 ([1, 1, 2, 2, 0] : List Int) ([0, 2] : List Int) = 5 by decide +kernel])
theorem k7_e31 : tab_proves7 [intP 3, ints [1, 1, 2, 2, 0], ints [4, 2, 0]] = some (True, .p (errP 7)) := tab_rw (tab_proves7_eq _ _ _) (by decide) (by rw [show provesM 3 ([1, 1, 2, 2, 0] : List Int) ([4, 2, 0] : List Int) = 7 by decide +kernel])
theorem k7_e32 : tab_proves7 [intP 3, ints [1, 1, 2, 2, 0], ints [0, 2, 5]] = some (True, .p (errP 2)) := tab_rw (tab_proves7_eq _ _ _) (by decide) (by rw [show provesM 3 ([1, 1, 2, 2, 0] : List Int) ([0, 2, 5] : List Int) = 2 by decide +kernel])
theorem k7_e33 : tab_check7 [intP 0, ints []] = some (True, .p (errP 1)) := tab_rw (tab_check7_eq _ _) (by decide) (by rw [show checkS 0 ([] : List Int) = 1 by decide +kernel])
theorem k7_e34 : tab_check7 [intP 3, ints [-1]] = some (True, .p (errP 1)) := tab_rw (tab_check7_eq _ _) (by decide) (by rw [show checkS 3 ([-1] : List Int) = 1 by decide +kernel])
theorem k7_e35 : tab_check7 [intP 3, ints [1001]] = some (True, .p (errP 1)) := tab_rw (tab_check7_eq _ _) (by decide) (by rw [show checkS 3 ([1001] : List Int) = 1 by decide +kernel])
theorem k7_e36 : tab_check7 [intP 3, ints [0, 0, 0, 0, 0, 0, 0, 0, 0, 0, 0, 0, 0]] = some (True, .p (errP 3)) := tab_rw (tab_check7_eq _ _) (by decide) (by rw [show checkS 3 ([0, 0, 0, 0, 0, 0, 0, 0, 0, 0, 0, 0, 0] : List Int) = 3 by decide +kernel])
theorem LotKnown_spec  (hpre : True) : Ret Tryd.prog 9 [] (boolP true) := by
  refine fn_of (T := [ent_exA, ent_exB, ent_list7, ent_same7, ent_check7, ent_lot7, ent_lots7, ent_most7, ent_proves7, ent_two7, ent_without7, ent_some7, ent_row7, ent_leaves7, ent_sums7, ent_works]) (N := 252) (RO := [20, 45, 51, 84, 95, 96, 112, 119, 140, 157, 198, 209, 216, 223, 233, 239]) (CH := []) (KS := [0, 1, 2, 3, 4, 5, 6, 7, 8, 9, 10, 11, 12, 13, 14, 15, 16, 17, 18, 123]) (NS := [245]) (fun args w => Tryd.call9 args w) Tryd.func9 rfl rfl (by simp) mixed (by kernel_rfl) ⟨tab_exA_ok, tab_exB_ok, tab_list7_ok, tab_same7_ok, tab_check7_ok, tab_lot7_ok, tab_lots7_ok, tab_most7_ok, tab_proves7_ok, tab_two7_ok, tab_without7_ok, tab_some7_ok, tab_row7_ok, tab_leaves7_ok, tab_sums7_ok, tab_works_ok, trivial⟩ ?_
  have d1 : ∀ l : List Int, decide (l = l) = true := fun l => by simp
  have d2 : ∀ l : List (List Int), decide (l = l) = true := fun l => by simp
  have n1 := k7_e33
  have n2 := k7_e29
  have n3 := k7_e24
  simp only [ints, lof_nil] at n1 n2 n3
  have n4 : tab_check7 [intP 3, PV.list LM.any 1 (List.replicate 13 (.val (.int .i64 0)))] = some (True, .p (errP 3)) := k7_e36
  simp (maxSteps := 4000000) only [go_sem, ↓reduceIte, Nat.reduceLT, Nat.reduceLeDiff, Nat.reduceEqDiff, Nat.reduceAdd, Nat.reduceSub, Nat.reduceDiv, Nat.reduceMod, Nat.reduceMul, Nat.reduceBEq, Nat.reduceBNe, reduceCtorEq, Int.reduceLT, Int.reduceLE, Int.reduceEq, Int.reduceNe, Int.reduceBEq, Int.reduceBNe, Int.reduceAdd, Int.reduceSub, Int.reduceNeg, Int.reduceToNat, f1, f2, f3, f4, f5, g1, g2, d1, d2, n1, n2, n3, n4, k7_e16, k7_e17, k7_e18, k7_e19, k7_e20, k7_e21, k7_e22, k7_e23, k7_e24, k7_e25, k7_e26, k7_e27, k7_e28, k7_e29, k7_e30, k7_e31, k7_e32, k7_e33, k7_e34, k7_e35, k7_e36]
  (repeat with_reducible refine And.intro (by (repeat' with_reducible refine And.intro ?_ ?_) <;> first | with_reducible assumption | omega | (simp only [InK_i64, InK_u64, InK_u8]; omega) | (unfold sz; omega) | exact True.intro) ?_)
  have hl : (sz ([[0, 2, 4]] : List (List Int)).length ∧ sz ([[0, 2, 4]] : List (List Int)).length) ∧ (∀ x ∈ ([[0, 2, 4]] : List (List Int)), sz x.length) ∧ ∀ x ∈ ([[0, 2, 4]] : List (List Int)), sz x.length := by decide
  refine vret_pure (lists7_spec [[0, 2, 4]] [[0, 2, 4]] hl) rfl (LeL.cons (Le.refl _) (LeL.cons (Le.list (LeL.cons Le.tight LeL.nil)) LeL.nil)) (by decide) ?_
  simp (maxSteps := 4000000) only [go_sem, ↓reduceIte, Nat.reduceLT, Nat.reduceLeDiff, Nat.reduceEqDiff, Nat.reduceAdd, Nat.reduceSub, Nat.reduceDiv, Nat.reduceMod, Nat.reduceMul, Nat.reduceBEq, Nat.reduceBNe, reduceCtorEq, Int.reduceLT, Int.reduceLE, Int.reduceEq, Int.reduceNe, Int.reduceBEq, Int.reduceBNe, Int.reduceAdd, Int.reduceSub, Int.reduceNeg, Int.reduceToNat, f1, f2, f3, f4, f5, g1, g2, d1, d2, n1, n2, n3, n4, k7_e16, k7_e17, k7_e18, k7_e19, k7_e20, k7_e21, k7_e22, k7_e23, k7_e24, k7_e25, k7_e26, k7_e27, k7_e28, k7_e29, k7_e30, k7_e31, k7_e32, k7_e33, k7_e34, k7_e35, k7_e36]
  (repeat with_reducible refine And.intro (by (repeat' with_reducible refine And.intro ?_ ?_) <;> first | with_reducible assumption | omega | (simp only [InK_i64, InK_u64, InK_u8]; omega) | (unfold sz; omega) | exact True.intro) ?_)
  exact ex_le_refl rfl
noncomputable def tab_LotKnown : Tab := tabOf (fun p : (Unit) => match p with | _u => []) (fun p : (Unit) => match p with | _u => True) (fun p : (Unit) => match p with | _u => boolP true)
theorem tab_LotKnown_eq  : tab_LotKnown [] = some (True, .p (boolP true)) := tabOf_eq (enc := fun p : (Unit) => match p with | _u => []) (pre := fun p : (Unit) => match p with | _u => True) (out := fun p : (Unit) => match p with | _u => boolP true) (by intro a b _; rfl) ()
theorem tab_LotKnown_ok : TabOK Tryd.prog 9 tab_LotKnown := tabOf_ok (by rintro _ h; exact LotKnown_spec  h)
noncomputable abbrev ent_LotKnown : FuncId × List Nat × Tab := (9, [], tab_LotKnown)
attribute [go_sem] tab_LotKnown_eq
end Go.V
