/-
  Contracts of the law of chapter 07: the examples hold. Conditions: none.
  LotZiv: of 2n - 1 loads there is a lot; the first one is returned, and all are counted. Conditions: none.
  The reductions of numerals and of ifs, put into the semantics' own set of simp rules, so that the long lists need not be written out.
-/
import Derived.Test.YtnblnnfikpenpaaDoorD7g
import Derived.Test.YtnblnnfikpenpaaDoorD7s
import Derived.Test.YtnblnnfikpenpaaDoorA7
set_option linter.unusedVariables false
set_option linter.unusedSimpArgs false
set_option linter.deprecated false
namespace Go.V
open Go.Proofs
set_option maxRecDepth 100000
set_option maxHeartbeats 4000000

theorem f1 (a : Int) : PV.list .any 1 [.val (.int .i64 a)] = ints [a] := rfl
theorem f2 (a b : Int) : PV.list .any 1 [.val (.int .i64 a), .val (.int .i64 b)] = ints [a, b] := rfl
theorem f3 (a b c : Int) : PV.list .any 1 [.val (.int .i64 a), .val (.int .i64 b), .val (.int .i64 c)] = ints [a, b, c] := rfl
theorem f4 (a b c d : Int) : PV.list .any 1 [.val (.int .i64 a), .val (.int .i64 b), .val (.int .i64 c), .val (.int .i64 d)] = ints [a, b, c, d] := rfl
theorem f5 (a b c d e : Int) : PV.list .any 1 [.val (.int .i64 a), .val (.int .i64 b), .val (.int .i64 c), .val (.int .i64 d), .val (.int .i64 e)] = ints [a, b, c, d, e] := rfl
theorem g1 (a : List Int) : PV.list .any 1 [.list .any 1 (lof intP a)] = lists [a] := rfl
theorem g2 (a b : List Int) : PV.list .any 1 [.list .any 1 (lof intP a), .list .any 1 (lof intP b)] = lists [a, b] := rfl
theorem tab_rw {t : Tab} {args : List PV} {p : Prop} {x y : PV} (h : t args = some (p, .p x)) (hp : p) (hx : x = y) : t args = some (True, .p y) := by rw [h, hx, eq_true hp]
def firstF : Nat → List (List Int) → Nat → Option (List (List Int))
  | 0, _, _ => none
  | _ + 1, _, 0 => some []
  | _ + 1, [], _ + 1 => none
  | f + 1, l :: w, k + 1 => match firstF f (apartL w l) k with
    | some r => some (l :: r)
    | none => firstF f w (k + 1)
theorem firstF_eq : ∀ (f : Nat) (w : List (List Int)) (k : Nat), w.length < f → firstF f w k = firstL w k
  | 0, _, _, h => absurd h (Nat.not_lt_zero _)
  | f + 1, w, 0, _ => by rw [firstL_zero]; cases w <;> rfl
  | f + 1, [], k + 1, _ => by rw [firstL_nil]; rfl
  | f + 1, l :: w, k + 1, h => by
    simp only [List.length_cons] at h
    rw [firstL_cons, ← firstF_eq f (apartL w l) k (by have := List.length_filter_le (freeB l) w; unfold apartL; omega), ← firstF_eq f w (k + 1) (by omega)]
    rfl
theorem mostM_eval {n : Nat} {L : List Int} {d : Nat} {r : List (List Int)} (hc : checkS n L = 0) (hn : 1 ≤ n) (h12 : L.length ≤ 12) (hW : ((R7.whole n L n).map ofN).length < 30) (hr : firstF 30 ((R7.whole n L n).map ofN) d = some r)
    (hd : L.length / n = d ∨ L.length / n = d + 1 ∧ firstF 30 ((R7.whole n L n).map ofN) (d + 1) = none) : mostM n L = (r, 0) := by
  rw [firstF_eq _ _ _ hW] at hr
  have h := most_found (L := L) (d := d) (r := r) hn h12 (fun k h1 h2 => by
    rcases hd with hd | ⟨hd, hd2⟩
    · omega
    · obtain rfl : k = d + 1 := by omega
      rw [firstF_eq _ _ _ hW] at hd2
      exact hd2) hr
  unfold mostM
  rw [if_pos hc, Int.toNat_natCast, h]

theorem exA_spec  (hpre : True) : Ret Tryd.prog 46 [] (ints [1, 1, 2, 2]) := by
  refine fn_of (T := [ent_list7]) (N := 3) (RO := [1]) (CH := []) (KS := [0]) (NS := []) (fun args w => Tryd.call46 args w) Tryd.func46 rfl rfl (by simp) mixed (by kernel_rfl) ⟨tab_list7_ok, trivial⟩ ?_
  simp only [go_sem, ↓reduceIte, Nat.reduceLT, Nat.reduceLeDiff, Nat.reduceEqDiff, Nat.reduceAdd, Nat.reduceSub, Nat.reduceDiv, Nat.reduceMod, Nat.reduceMul, Nat.reduceBEq, Nat.reduceBNe, reduceCtorEq, Int.reduceLT, Int.reduceLE, Int.reduceEq, Int.reduceNe, Int.reduceBEq, Int.reduceBNe, Int.reduceAdd, Int.reduceSub, Int.reduceNeg, Int.reduceToNat]
  simp only [go_sem, ↓reduceIte, Nat.reduceLT, Nat.reduceLeDiff, Nat.reduceEqDiff, Nat.reduceAdd, Nat.reduceSub, Nat.reduceDiv, Nat.reduceMod, Nat.reduceMul, Nat.reduceBEq, Nat.reduceBNe, reduceCtorEq, Int.reduceLT, Int.reduceLE, Int.reduceEq, Int.reduceNe, Int.reduceBEq, Int.reduceBNe, Int.reduceAdd, Int.reduceSub, Int.reduceNeg, Int.reduceToNat, f4]
  exact ex_le_refl rfl
noncomputable def tab_exA : Tab := tabOf (fun p : (Unit) => match p with | _u => []) (fun p : (Unit) => match p with | _u => True) (fun p : (Unit) => match p with | _u => ints [1, 1, 2, 2])
theorem tab_exA_eq  : tab_exA [] = some (True, .p (ints [1, 1, 2, 2])) := tabOf_eq (enc := fun p : (Unit) => match p with | _u => []) (pre := fun p : (Unit) => match p with | _u => True) (out := fun p : (Unit) => match p with | _u => ints [1, 1, 2, 2]) (by intro a b _; rfl) ()
theorem tab_exA_ok : TabOK Tryd.prog 46 tab_exA := tabOf_ok (by rintro _ h; exact exA_spec  h)
noncomputable abbrev ent_exA : FuncId × List Nat × Tab := (46, [], tab_exA)
attribute [go_sem] tab_exA_eq
theorem exB_spec  (hpre : True) : Ret Tryd.prog 47 [] (ints [1, 1, 2, 2, 0]) := by
  refine fn_of (T := [ent_list7]) (N := 3) (RO := [1]) (CH := []) (KS := [0]) (NS := []) (fun args w => Tryd.call47 args w) Tryd.func47 rfl rfl (by simp) mixed (by kernel_rfl) ⟨tab_list7_ok, trivial⟩ ?_
  simp only [go_sem, ↓reduceIte, Nat.reduceLT, Nat.reduceLeDiff, Nat.reduceEqDiff, Nat.reduceAdd, Nat.reduceSub, Nat.reduceDiv, Nat.reduceMod, Nat.reduceMul, Nat.reduceBEq, Nat.reduceBNe, reduceCtorEq, Int.reduceLT, Int.reduceLE, Int.reduceEq, Int.reduceNe, Int.reduceBEq, Int.reduceBNe, Int.reduceAdd, Int.reduceSub, Int.reduceNeg, Int.reduceToNat]
  simp only [go_sem, ↓reduceIte, Nat.reduceLT, Nat.reduceLeDiff, Nat.reduceEqDiff, Nat.reduceAdd, Nat.reduceSub, Nat.reduceDiv, Nat.reduceMod, Nat.reduceMul, Nat.reduceBEq, Nat.reduceBNe, reduceCtorEq, Int.reduceLT, Int.reduceLE, Int.reduceEq, Int.reduceNe, Int.reduceBEq, Int.reduceBNe, Int.reduceAdd, Int.reduceSub, Int.reduceNeg, Int.reduceToNat, f5]
  exact ex_le_refl rfl
noncomputable def tab_exB : Tab := tabOf (fun p : (Unit) => match p with | _u => []) (fun p : (Unit) => match p with | _u => True) (fun p : (Unit) => match p with | _u => ints [1, 1, 2, 2, 0])
theorem tab_exB_eq  : tab_exB [] = some (True, .p (ints [1, 1, 2, 2, 0])) := tabOf_eq (enc := fun p : (Unit) => match p with | _u => []) (pre := fun p : (Unit) => match p with | _u => True) (out := fun p : (Unit) => match p with | _u => ints [1, 1, 2, 2, 0]) (by intro a b _; rfl) ()
theorem tab_exB_ok : TabOK Tryd.prog 47 tab_exB := tabOf_ok (by rintro _ h; exact exB_spec  h)
noncomputable abbrev ent_exB : FuncId × List Nat × Tab := (47, [], tab_exB)
attribute [go_sem] tab_exB_eq
theorem k7_e1 : tab_lot7 [intP 3, ints [1, 1, 2, 2, 0]] = some (True, .p (resP (([0, 2, 4] : List Int), 0))) := tab_rw (tab_lot7_eq _ _) (by decide) (by rw [show lotM 3 ([1, 1, 2, 2, 0] : List Int) = (([0, 2, 4] : List Int), 0) by decide +kernel])
theorem k7_e2 : tab_lots7 [intP 3, ints [1, 1, 2, 2, 0]] = some (True, .p (resN (4, 0))) := tab_rw (tab_lots7_eq _ _) (by decide) (by rw [show lotsM 3 ([1, 1, 2, 2, 0] : List Int) = (4, 0) by decide +kernel])
theorem k7_e3 : tab_most7 [intP 2, ints [1, 1, 0, 0, 1]] = some (True, .p (resLL ([([0, 1] : List Int), ([2, 3] : List Int)], 0))) := tab_rw (tab_most7_eq _ _) (by decide) (by rw [show mostM 2 ([1, 1, 0, 0, 1] : List Int) = ([([0, 1] : List Int), ([2, 3] : List Int)], 0) from mostM_eval (d := 2) (by decide +kernel) (by decide) (by decide) (by decide +kernel) (by decide +kernel) (by decide +kernel)])
theorem k7_e4 : tab_two7 [intP 3, ints [1, 1, 2, 2]] = some (True, .p (res3 (1, 2, 0))) := tab_rw (tab_two7_eq _ _) (by decide) (by rw [show twoM 3 ([1, 1, 2, 2] : List Int) = (1, 2, 0) by decide +kernel])
theorem k7_e5 : tab_without7 [intP 3] = some (True, .p (resP (([0, 0, 1, 1] : List Int), 0))) := tab_rw (tab_without7_eq _) trivial (by rw [show withoutM 3 = (([0, 0, 1, 1] : List Int), 0) by decide +kernel])
theorem k7_e6 : tab_some7 [intP 3, ints [1, 2, 1]] = some (True, .p (resP (([0, 1] : List Int), 0))) := tab_rw (tab_some7_eq _ _) (by decide) (by rw [show someM 3 ([1, 2, 1] : List Int) = (([0, 1] : List Int), 0) by decide +kernel])
theorem k7_e7 : tab_row7 [intP 3, ints [1, 1, 2, 2]] = some (True, .p (res3 (0, 4, 0))) := tab_rw (tab_row7_eq _ _) (by decide) (by rw [show rowM 3 ([1, 1, 2, 2] : List Int) = (0, 4, 0) by decide +kernel])
theorem k7_e8 : tab_leaves7 [intP 3, ints [1, 1, 2, 2], intP 3] = some (True, .p (resP (([1, 2] : List Int), 0))) := tab_rw (tab_leaves7_eq _ _ _) (by decide) (by rw [show leavesM 3 ([1, 1, 2, 2] : List Int) 3 = (([1, 2] : List Int), 0) by decide +kernel])
theorem k7_e9 : tab_sums7 [intP 5, ints [0, 1], ints [0, 2]] = some (True, .p (resP (([0, 1, 2, 3] : List Int), 0))) := tab_rw (tab_sums7_eq _ _ _) (by decide) (by rw [show sumsM 5 ([0, 1] : List Int) ([0, 2] : List Int) = (([0, 1, 2, 3] : List Int), 0) by decide +kernel])
theorem k7_e10 : tab_lot7 [intP 3, ints [1, 1, 2, 2]] = some (True, .p (resP (([] : List Int), 12))) := tab_rw (tab_lot7_eq _ _) (by decide) (by rw [show lotM 3 ([1, 1, 2, 2] : List Int) = (([] : List Int), 12) by decide +kernel])
theorem k7_e11 : tab_two7 [intP 3, ints [1, 2, 0, 0]] = some (True, .p (res3 (0, 0, 13))) := tab_rw (tab_two7_eq _ _) (by decide) (by rw [show twoM 3 ([1, 2, 0, 0] : List Int) = (0, 0, 13) by decide +kernel])
theorem k7_e12 : tab_some7 [intP 3, ints [1, 1]] = some (True, .p (resP (([] : List Int), 12))) := tab_rw (tab_some7_eq _ _) (by decide) (by rw [show someM 3 ([1, 1] : List Int) = (([] : List Int), 12) by decide +kernel])
theorem k7_e13 : tab_row7 [intP 3, ints [1, 1]] = some (True, .p (res3 (0, 0, 12))) := tab_rw (tab_row7_eq _ _) (by decide) (by rw [show rowM 3 ([1, 1] : List Int) = (0, 0, 12) by decide +kernel])
theorem k7_e14 : tab_proves7 [intP 3, ints [1, 1, 2, 2, 0], ints [0, 2, 4]] = some (True, .p (errP 0)) := tab_rw (tab_proves7_eq _ _ _) (by decide) (by rw [show provesM 3 ([1, 1, 2, 2, 0] : List Int) ([0, 2, 4] : List Int) = 0 by decide +kernel])
theorem k7_e15 : tab_proves7 [intP 3, ints [1, 1, 2, 2, 0], ints [0, 1, 2]] = some (True, .p (errP 14)) := tab_rw (tab_proves7_eq _ _ _) (by decide) (by rw [show provesM 3 ([1, 1, 2, 2, 0] : List Int) ([0, 1, 2] : List Int) = 14 by decide +kernel])
theorem works_spec  (hpre : True) : Ret Tryd.prog 16 [] (boolP true) := by
  refine fn_of (T := [ent_exA, ent_exB, ent_list7, ent_same7, ent_check7, ent_lot7, ent_lots7, ent_most7, ent_proves7, ent_two7, ent_without7, ent_some7, ent_row7, ent_leaves7, ent_sums7]) (N := 214) (RO := [30, 46, 89, 91, 102, 109, 115, 145, 155, 156, 157, 170, 176, 190, 196, 202, 209]) (CH := []) (KS := [0, 1, 2, 3, 4, 5, 6, 7, 8, 9, 10, 11, 12, 13, 14, 15, 16, 17, 18, 82]) (NS := []) (fun args w => Tryd.call16 args w) Tryd.func16 rfl rfl (by simp) mixed (by kernel_rfl) ⟨tab_exA_ok, tab_exB_ok, tab_list7_ok, tab_same7_ok, tab_check7_ok, tab_lot7_ok, tab_lots7_ok, tab_most7_ok, tab_proves7_ok, tab_two7_ok, tab_without7_ok, tab_some7_ok, tab_row7_ok, tab_leaves7_ok, tab_sums7_ok, trivial⟩ ?_
  have d1 : ∀ l : List Int, decide (l = l) = true := fun l => by simp
  have d2 : ∀ l : List (List Int), decide (l = l) = true := fun l => by simp
  have z3 : sz 3 := by unfold sz; omega
  have z2 : sz 2 := by unfold sz; omega
  have z4 : sz 4 := by unfold sz; omega
  have hl : (sz ([[0, 1], [2, 3]] : List (List Int)).length ∧ sz ([[0, 1], [2, 3]] : List (List Int)).length) ∧ (∀ x ∈ ([[0, 1], [2, 3]] : List (List Int)), sz x.length) ∧ ∀ x ∈ ([[0, 1], [2, 3]] : List (List Int)), sz x.length := by decide
  simp (maxSteps := 4000000) only [go_sem, ↓reduceIte, Nat.reduceLT, Nat.reduceLeDiff, Nat.reduceEqDiff, Nat.reduceAdd, Nat.reduceSub, Nat.reduceDiv, Nat.reduceMod, Nat.reduceMul, Nat.reduceBEq, Nat.reduceBNe, reduceCtorEq, Int.reduceLT, Int.reduceLE, Int.reduceEq, Int.reduceNe, Int.reduceBEq, Int.reduceBNe, Int.reduceAdd, Int.reduceSub, Int.reduceNeg, Int.reduceToNat, f1, f2, f3, f4, f5, g1, g2, d1, d2, k7_e1, k7_e2, k7_e3, k7_e4, k7_e5, k7_e6, k7_e7, k7_e8, k7_e9, k7_e10, k7_e11, k7_e12, k7_e13, k7_e14, k7_e15]
  (repeat with_reducible refine And.intro (by (repeat' with_reducible refine And.intro ?_ ?_) <;> first | with_reducible assumption | omega | (simp only [InK_i64, InK_u64, InK_u8]; omega) | (unfold sz; omega) | exact True.intro) ?_)
  refine vret_pure (lists7_spec [[0, 1], [2, 3]] [[0, 1], [2, 3]] hl) rfl (LeL.cons (Le.refl _) (LeL.cons (Le.list (LeL.cons Le.tight (LeL.cons Le.tight LeL.nil))) LeL.nil)) (by decide) ?_
  simp (maxSteps := 4000000) only [go_sem, ↓reduceIte, Nat.reduceLT, Nat.reduceLeDiff, Nat.reduceEqDiff, Nat.reduceAdd, Nat.reduceSub, Nat.reduceDiv, Nat.reduceMod, Nat.reduceMul, Nat.reduceBEq, Nat.reduceBNe, reduceCtorEq, Int.reduceLT, Int.reduceLE, Int.reduceEq, Int.reduceNe, Int.reduceBEq, Int.reduceBNe, Int.reduceAdd, Int.reduceSub, Int.reduceNeg, Int.reduceToNat, f1, f2, f3, f4, f5, g1, g2, d1, d2, k7_e1, k7_e2, k7_e3, k7_e4, k7_e5, k7_e6, k7_e7, k7_e8, k7_e9, k7_e10, k7_e11, k7_e12, k7_e13, k7_e14, k7_e15]
  (repeat with_reducible refine And.intro (by (repeat' with_reducible refine And.intro ?_ ?_) <;> first | with_reducible assumption | omega | (simp only [InK_i64, InK_u64, InK_u8]; omega) | (unfold sz; omega) | exact True.intro) ?_)
  exact ex_le_refl rfl
noncomputable def tab_works : Tab := tabOf (fun p : (Unit) => match p with | _u => []) (fun p : (Unit) => match p with | _u => True) (fun p : (Unit) => match p with | _u => boolP true)
theorem tab_works_eq  : tab_works [] = some (True, .p (boolP true)) := tabOf_eq (enc := fun p : (Unit) => match p with | _u => []) (pre := fun p : (Unit) => match p with | _u => True) (out := fun p : (Unit) => match p with | _u => boolP true) (by intro a b _; rfl) ()
theorem tab_works_ok : TabOK Tryd.prog 16 tab_works := tabOf_ok (by rintro _ h; exact works_spec  h)
noncomputable abbrev ent_works : FuncId × List Nat × Tab := (16, [], tab_works)
attribute [go_sem] tab_works_eq
end Go.V

namespace Go.V
open Go.Proofs
set_option maxRecDepth 100000
set_option maxHeartbeats 4000000

theorem made_ok {n : Nat} {W : List Nat} {m : Nat} (h1 : 1 ≤ n) (h6 : n ≤ 6) (hm : m ≤ 12) (hW : W.length = 12) : Okl n (R7.madeL W m) where
  n1 := h1
  n6 := h6
  len := by rw [R7.madeL_length (by omega)]; omega
  lo x hx := (R7.madeL_bound x hx).1
  hi x hx := (R7.madeL_bound x hx).2
theorem Okl.check {n : Nat} {L : List Int} (h : Okl n L) : checkS n L = 0 := checkS_zero.2 ⟨⟨by have := h.n1; omega, by have := h.n6; omega⟩, h.len, fun x hx => ⟨h.lo x hx, h.hi x hx⟩⟩
/-- a whole list is accepted -/
theorem pErr_ok {L : List Int} : ∀ (l : List Nat) (a : Int), (∀ x ∈ l, a < (x : Int)) → l.Pairwise (· < ·) → (∀ x ∈ l, x < L.length) → pErr L (ofN l) a = 0
  | [], _, _, _, _ => rfl
  | x :: l, a, ha, hp, hl => by
    rw [List.pairwise_cons] at hp
    have h1 := hl x (by simp)
    have h2 := ha x (by simp)
    rw [ofN_cons, pErr, if_neg (by simp [inB]; omega), if_neg (by omega)]
    exact pErr_ok l x (fun y hy => by have := hp.1 y hy; omega) hp.2 fun y hy => hl y (by simp [hy])
theorem proves_whole {n : Nat} {L : List Int} (h : Okl n L) {l : List Nat} (hl : l ∈ R7.whole n L n) : provesM n L (ofN l) = 0 := by
  obtain ⟨h1, h2, h3⟩ := R7.whole_mem12 h.len hl
  have h4 := (List.mem_filter.1 hl).2
  rw [beq_iff_eq] at h4
  unfold provesM
  rw [if_pos h.check, if_pos (by rw [ofN_length, h3]), if_pos (pErr_ok l (-1) (fun x _ => by omega) h1 h2), wtI_ofN, if_pos h4]
theorem first_ziv {n : Nat} {L : List Int} (h : Okl n L) {l : List Nat} {r : List (List Nat)} (hw : R7.whole n L n = l :: r) : lotM n L = (ofN l, 0) := by
  unfold lotM
  rw [if_pos h.check, Int.toNat_natCast, hw]
theorem lots_ok {n : Nat} {L : List Int} (h : Okl n L) : lotsM n L = (((R7.whole n L n).length : Int), 0) := by
  unfold lotsM
  rw [if_pos h.check, Int.toNat_natCast]

theorem ziv1_spec (n : Nat) (hpre : 1 ≤ n ∧ n ≤ 6) : Ret Tryd.prog 53 [natP n] (natP (2 * n - 1)) := by
  refine fn_of (T := []) (N := 6) (RO := []) (CH := []) (KS := [0, 2]) (NS := []) (fun args w => Tryd.call53 args w) Tryd.func53 rfl rfl (by simp) mixed (by kernel_rfl) trivial ?_
  simp only [go_sem, ↓reduceIte, Nat.reduceLT, Nat.reduceLeDiff, Nat.reduceEqDiff, Nat.reduceAdd, Nat.reduceSub, Nat.reduceDiv, Nat.reduceMod, Nat.reduceMul, Nat.reduceBEq, Nat.reduceBNe, reduceCtorEq, Int.reduceLT, Int.reduceLE, Int.reduceEq, Int.reduceNe, Int.reduceBEq, Int.reduceBNe, Int.reduceAdd, Int.reduceSub, Int.reduceNeg, Int.reduceToNat]
  refine ⟨by rw [InK_i64]; omega, by rw [InK_i64]; omega, ex_le_refl (congrArg (fun x : Int => intP x) (by omega))⟩
noncomputable def tab_ziv1 : Tab := tabOf (fun p : (Nat) => match p with | n => [natP n]) (fun p : (Nat) => match p with | n => 1 ≤ n ∧ n ≤ 6) (fun p : (Nat) => match p with | n => natP (2 * n - 1))
theorem tab_ziv1_eq (n : Nat) : tab_ziv1 [natP n] = some (1 ≤ n ∧ n ≤ 6, .p (natP (2 * n - 1))) := tabOf_eq (enc := fun p : (Nat) => match p with | n => [natP n]) (pre := fun p : (Nat) => match p with | n => 1 ≤ n ∧ n ≤ 6) (out := fun p : (Nat) => match p with | n => natP (2 * n - 1)) (by rintro n n' h; simp at h; first | (simp [h]; done) | omega | (simp [h]; omega)) (n)
theorem tab_ziv1_ok : TabOK Tryd.prog 53 tab_ziv1 := tabOf_ok (by rintro n h; exact ziv1_spec n h)
noncomputable abbrev ent_ziv1 : FuncId × List Nat × Tab := (53, [], tab_ziv1)
attribute [go_sem] tab_ziv1_eq

theorem u16s_take12 {A : List Nat} (h : A.length = 12) : List.take 12 (lof u16P A) = lof u16P A := List.take_of_length_le (by rw [lof_length]; omega)

theorem LotZiv_spec (x : Nat × (List Nat)) (hpre : HeapOK x) : Ret Tryd.prog 12 [heapP x] (boolP true) := by
  refine fn_of (T := [ent_works, ent_wholesL, ent_lot7, ent_lots7, ent_check7, ent_proves7, ent_same7]) (N := 88) (RO := [1]) (CH := []) (KS := [0, 1, 2, 3, 4, 5, 6, 7, 8, 9, 68]) (NS := []) (fun args w => Tryd.call12 args w) Tryd.func12 rfl rfl (by simp) mixed (by kernel_rfl) ⟨tab_works_ok, tab_wholesL_ok, tab_lot7_ok, tab_lots7_ok, tab_check7_ok, tab_proves7_ok, tab_same7_ok, trivial⟩ ?_
  simp only [go_sem, ↓reduceIte, Nat.reduceLT, Nat.reduceLeDiff, Nat.reduceEqDiff, Nat.reduceAdd, Nat.reduceSub, Nat.reduceDiv, Nat.reduceMod, Nat.reduceMul, Nat.reduceBEq, Nat.reduceBNe, reduceCtorEq, Int.reduceLT, Int.reduceLE, Int.reduceEq, Int.reduceNe, Int.reduceBEq, Int.reduceBNe, Int.reduceAdd, Int.reduceSub, Int.reduceNeg, Int.reduceToNat]
  have hok := hpre
  obtain ⟨hs, hl, hlt⟩ := hpre
  have hr := Nat.mod_lt x.1 (show 6 > 0 by omega)
  obtain ⟨n, hn⟩ : ∃ n, 1 + x.1 % 6 = n := ⟨_, rfl⟩
  have h1 : 1 ≤ n := by omega
  have h6 : n ≤ 6 := by omega
  have hz1 := ziv1_spec n ⟨h1, h6⟩
  have ok := made_ok (W := x.2) (m := 2 * n - 1) h1 h6 (by omega) hl
  have hLl := R7.madeL_length (W := x.2) (m := 2 * n - 1) (by omega)
  have hmade := made_spec x 6 53 [] (2 * n - 1) hok (by omega) (by omega) (by omega) (by rw [hn]; exact hz1)
  rw [hn, show min (2 * n - 1) 12 = 2 * n - 1 by omega] at hmade
  obtain ⟨L, hL⟩ : ∃ L, R7.madeL x.2 (2 * n - 1) = L := ⟨_, rfl⟩
  rw [hL] at ok hmade hLl
  simp only [go_sem, ↓reduceIte, Nat.reduceLT, Nat.reduceLeDiff, Nat.reduceEqDiff, Nat.reduceAdd, Nat.reduceSub, Nat.reduceDiv, Nat.reduceMod, Nat.reduceMul, Nat.reduceBEq, Nat.reduceBNe, reduceCtorEq, Int.reduceLT, Int.reduceLE, Int.reduceEq, Int.reduceNe, Int.reduceBEq, Int.reduceBNe, Int.reduceAdd, Int.reduceSub, Int.reduceNeg, Int.reduceToNat, u16s_one, u16s_take12 hl]
  refine ⟨by omega, ?_⟩
  refine vret_pure hmade rfl (LeL.refl _) (by decide) ?_
  have h12 := ok.len
  have hne := R7.ziv h1 h6 L hLl
  obtain ⟨l, r, hw⟩ : ∃ l r, R7.whole n L n = l :: r := by
    cases h : R7.whole n L n with
    | nil => rw [h] at hne; simp at hne
    | cons l r => exact ⟨l, r, rfl⟩
  have hlm : l ∈ R7.whole n L n := by rw [hw]; simp
  have k1 := first_ziv ok hw
  have k2 := lots_ok ok
  have k3 := proves_whole ok hlm
  have k4 := ok.check
  have hlen := (R7.whole_mem12 h12 hlm).2.2
  rw [hw, List.length_cons] at k2
  have d1 : decide (ofN l = ofN l) = true := by simp
  have hg : (ofN l :: r.map ofN)[0]? = some (ofN l) := rfl
  have e0 : ((((r.length + 1 : Nat) : Int)) == 0) = false := by rw [beq_eq_false_iff_ne]; omega
  have e1 : (((r.length + 1 : Nat) : Int) != ((r.length + 1 : Nat) : Int)) = false := by simp
  have z1 : sz (ofN l).length := by rw [ofN_length]; unfold sz; omega
  have z2 : sz L.length := by unfold sz; omega
  simp only [go_sem, ↓reduceIte, Nat.reduceLT, Nat.reduceLeDiff, Nat.reduceEqDiff, Nat.reduceAdd, Nat.reduceSub, Nat.reduceDiv, Nat.reduceMod, Nat.reduceMul, Nat.reduceBEq, Nat.reduceBNe, reduceCtorEq, Int.reduceLT, Int.reduceLE, Int.reduceEq, Int.reduceNe, Int.reduceBEq, Int.reduceBNe, Int.reduceAdd, Int.reduceSub, Int.reduceNeg, Int.reduceToNat, hw, List.map_cons, List.length_cons, List.length_map, k1, k2, k3, k4, d1, e0, e1, lof_getD hg]
  (repeat with_reducible refine And.intro (by (repeat' with_reducible refine And.intro ?_ ?_) <;> first | with_reducible assumption | omega | (simp only [InK_i64, InK_u64, InK_u8]; omega) | (unfold sz; omega) | exact True.intro) ?_)
  have hcase : n = 1 ∨ n = 4 ∨ n = 6 ∨ n = 2 ∨ n = 3 ∨ n = 5 := by omega
  rcases hcase with h | h | h | h
  · have b1 : ((n : Int) == 4) = false := by rw [beq_eq_false_iff_ne]; omega
    have b2 : ((n : Int) == 6) = false := by rw [beq_eq_false_iff_ne]; omega
    have b3 : ((n : Int) == 1) = true := by rw [beq_iff_eq]; omega
    simp only [go_sem, ↓reduceIte, Nat.reduceLT, Nat.reduceLeDiff, Nat.reduceEqDiff, Nat.reduceAdd, Nat.reduceSub, Nat.reduceDiv, Nat.reduceMod, Nat.reduceMul, Nat.reduceBEq, Nat.reduceBNe, reduceCtorEq, Int.reduceLT, Int.reduceLE, Int.reduceEq, Int.reduceNe, Int.reduceBEq, Int.reduceBNe, Int.reduceAdd, Int.reduceSub, Int.reduceNeg, Int.reduceToNat, b1, b2, b3]
    exact ex_le_refl rfl
  · have b1 : ((n : Int) == 4) = true := by rw [beq_iff_eq]; omega
    simp only [go_sem, ↓reduceIte, Nat.reduceLT, Nat.reduceLeDiff, Nat.reduceEqDiff, Nat.reduceAdd, Nat.reduceSub, Nat.reduceDiv, Nat.reduceMod, Nat.reduceMul, Nat.reduceBEq, Nat.reduceBNe, reduceCtorEq, Int.reduceLT, Int.reduceLE, Int.reduceEq, Int.reduceNe, Int.reduceBEq, Int.reduceBNe, Int.reduceAdd, Int.reduceSub, Int.reduceNeg, Int.reduceToNat, b1]
    exact ex_le_refl rfl
  · have b1 : ((n : Int) == 4) = false := by rw [beq_eq_false_iff_ne]; omega
    have b2 : ((n : Int) == 6) = true := by rw [beq_iff_eq]; omega
    simp only [go_sem, ↓reduceIte, Nat.reduceLT, Nat.reduceLeDiff, Nat.reduceEqDiff, Nat.reduceAdd, Nat.reduceSub, Nat.reduceDiv, Nat.reduceMod, Nat.reduceMul, Nat.reduceBEq, Nat.reduceBNe, reduceCtorEq, Int.reduceLT, Int.reduceLE, Int.reduceEq, Int.reduceNe, Int.reduceBEq, Int.reduceBNe, Int.reduceAdd, Int.reduceSub, Int.reduceNeg, Int.reduceToNat, b1, b2]
    exact ex_le_refl rfl
  · have b1 : ((n : Int) == 4) = false := by rw [beq_eq_false_iff_ne]; omega
    have b2 : ((n : Int) == 6) = false := by rw [beq_eq_false_iff_ne]; omega
    have b3 : ((n : Int) == 1) = false := by rw [beq_eq_false_iff_ne]; omega
    have hzc := R7.ziv_count h L hLl
    rw [hw, List.length_cons] at hzc
    have b4 : ((((r.length + 1 : Nat) : Int)) % (n : Int) == 1) = true := by rw [beq_iff_eq]; omega
    simp only [go_sem, ↓reduceIte, Nat.reduceLT, Nat.reduceLeDiff, Nat.reduceEqDiff, Nat.reduceAdd, Nat.reduceSub, Nat.reduceDiv, Nat.reduceMod, Nat.reduceMul, Nat.reduceBEq, Nat.reduceBNe, reduceCtorEq, Int.reduceLT, Int.reduceLE, Int.reduceEq, Int.reduceNe, Int.reduceBEq, Int.reduceBNe, Int.reduceAdd, Int.reduceSub, Int.reduceNeg, Int.reduceToNat, b1, b2, b3, b4]
    (repeat with_reducible refine And.intro (by (repeat' with_reducible refine And.intro ?_ ?_) <;> first | with_reducible assumption | omega | (simp only [InK_i64, InK_u64, InK_u8]; omega) | (unfold sz; omega) | exact True.intro) ?_)
    exact ex_le_refl rfl
end Go.V

set_option linter.unusedVariables false
namespace Go.V
attribute [go_sem_proc ↓] reduceIte
attribute [go_sem_proc] Nat.reduceLT Nat.reduceLeDiff Nat.reduceEqDiff Nat.reduceAdd Nat.reduceSub Nat.reduceDiv Nat.reduceMod Nat.reduceMul Nat.reduceBEq Nat.reduceBNe reduceCtorEq Int.reduceLT Int.reduceLE Int.reduceEq Int.reduceNe Int.reduceBEq Int.reduceBNe Int.reduceAdd Int.reduceSub Int.reduceNeg Int.reduceToNat
end Go.V
