/-
  Contracts of the law of chapter 07: the examples hold. Conditions: none.
  LotZiv: of 2n - 1 loads there is a lot; the first one is returned, and all are counted. Conditions: none.
  The reductions of numerals and of ifs, put into the semantics' own set of simp rules, so that the long lists need not be written out.
  LotShown: loads are accepted just if they are a lot. Conditions: none.
-/
import Derived.Test.YtnblnnfikpenpaaDoorD7g
import Derived.Test.YtnblnnfikpenpaaDoorD7s
import Derived.Test.YtnblnnfikpenpaaDoorA7
import Derived.Test.YtnblnnfikpenpaaDoorD7e
set_option linter.unusedVariables false
set_option linter.unusedSimpArgs false
set_option linter.deprecated false
namespace Go.V
open Go.Proofs
set_option maxRecDepth 100000
set_option maxHeartbeats 4000000

theorem f1 (a : Int) : PV.list .any 1 [.val (.int .i64 a)] = ints [a] := rfl
theorem f2 (a b : Int) : PV.list .any 1 [.val (.int .i64 a), .val (.int .i64 b)] = ints [a, b] := rfl
theorem f3 (a b c : Int) : PV.list .any 1 [.val (.int .i64 a), .val (.int .i64 b), .val (.int .i64 c)] = ints [a, b, c] := rfl
theorem f4 (a b c d : Int) : PV.list .any 1 [.val (.int .i64 a), .val (.int .i64 b), .val (.int .i64 c), .val (.int .i64 d)] = ints [a, b, c, d] := rfl
theorem f5 (a b c d e : Int) : PV.list .any 1 [.val (.int .i64 a), .val (.int .i64 b), .val (.int .i64 c), .val (.int .i64 d), .val (.int .i64 e)] = ints [a, b, c, d, e] := rfl
theorem g1 (a : List Int) : PV.list .any 1 [.list .any 1 (lof intP a)] = lists [a] := rfl
theorem g2 (a b : List Int) : PV.list .any 1 [.list .any 1 (lof intP a), .list .any 1 (lof intP b)] = lists [a, b] := rfl
theorem tab_rw {t : Tab} {args : List PV} {p : Prop} {x y : PV} (h : t args = some (p, .p x)) (hp : p) (hx : x = y) : t args = some (True, .p y) := by rw [h, hx, eq_true hp]
def firstF : Nat → List (List Int) → Nat → Option (List (List Int))
  | 0, _, _ => none
  | _ + 1, _, 0 => some []
  | _ + 1, [], _ + 1 => none
  | f + 1, l :: w, k + 1 => match firstF f (apartL w l) k with
    | some r => some (l :: r)
    | none => firstF f w (k + 1)
theorem firstF_eq : ∀ (f : Nat) (w : List (List Int)) (k : Nat), w.length < f → firstF f w k = firstL w k
  | 0, _, _, h => absurd h (Nat.not_lt_zero _)
  | f + 1, w, 0, _ => by rw [firstL_zero]; cases w <;> rfl
  | f + 1, [], k + 1, _ => by rw [firstL_nil]; rfl
  | f + 1, l :: w, k + 1, h => by
    simp only [List.length_cons] at h
    rw [firstL_cons, ← firstF_eq f (apartL w l) k (by have := List.length_filter_le (freeB l) w; unfold apartL; omega), ← firstF_eq f w (k + 1) (by omega)]
    rfl
theorem mostM_eval {n : Nat} {L : List Int} {d : Nat} {r : List (List Int)} (hc : checkS n L = 0) (hn : 1 ≤ n) (h12 : L.length ≤ 12) (hW : ((R7.whole n L n).map ofN).length < 30) (hr : firstF 30 ((R7.whole n L n).map ofN) d = some r)
    (hd : L.length / n = d ∨ L.length / n = d + 1 ∧ firstF 30 ((R7.whole n L n).map ofN) (d + 1) = none) : mostM n L = (r, 0) := by
  rw [firstF_eq _ _ _ hW] at hr
  have h := most_found (L := L) (d := d) (r := r) hn h12 (fun k h1 h2 => by
    rcases hd with hd | ⟨hd, hd2⟩
    · omega
    · obtain rfl : k = d + 1 := by omega
      rw [firstF_eq _ _ _ hW] at hd2
      exact hd2) hr
  unfold mostM
  rw [if_pos hc, Int.toNat_natCast, h]

theorem exA_spec  (hpre : True) : Ret Tryd.prog 46 [] (ints [1, 1, 2, 2]) := by
  refine fn_of (T := [ent_list7]) (N := 3) (RO := [1]) (CH := []) (KS := [0]) (NS := []) (fun args w => Tryd.call46 args w) Tryd.func46 rfl rfl (by simp) mixed (by kernel_rfl) ⟨tab_list7_ok, trivial⟩ ?_
  simp only [go_sem, ↓reduceIte, Nat.reduceLT, Nat.reduceLeDiff, Nat.reduceEqDiff, Nat.reduceAdd, Nat.reduceSub, Nat.reduceDiv, Nat.reduceMod, Nat.reduceMul, Nat.reduceBEq, Nat.reduceBNe, reduceCtorEq, Int.reduceLT, Int.reduceLE, Int.reduceEq, Int.reduceNe, Int.reduceBEq, Int.reduceBNe, Int.reduceAdd, Int.reduceSub, Int.reduceNeg, Int.reduceToNat]
  simp only [go_sem, ↓reduceIte, Nat.reduceLT, Nat.reduceLeDiff, Nat.reduceEqDiff, Nat.reduceAdd, Nat.reduceSub, Nat.reduceDiv, Nat.reduceMod, Nat.reduceMul, Nat.reduceBEq, Nat.reduceBNe, reduceCtorEq, Int.reduceLT, Int.reduceLE, Int.reduceEq, Int.reduceNe, Int.reduceBEq, Int.reduceBNe, Int.reduceAdd, Int.reduceSub, Int.reduceNeg, Int.reduceToNat, f4]
  exact ex_le_refl rfl
noncomputable def tab_exA : Tab := tabOf (fun p : (Unit) => match p with | _u => []) (fun p : (Unit) => match p with | _u => True) (fun p : (Unit) => match p with | _u => ints [1, 1, 2, 2])
theorem tab_exA_eq  : tab_exA [] = some (True, .p (ints [1, 1, 2, 2])) := tabOf_eq (enc := fun p : (Unit) => match p with | _u => []) (pre := fun p : (Unit) => match p with | _u => True) (out := fun p : (Unit) => match p with | _u => ints [1, 1, 2, 2]) (by intro a b _; rfl) ()
theorem tab_exA_ok : TabOK Tryd.prog 46 tab_exA := tabOf_ok (by rintro _ h; exact exA_spec  h)
noncomputable abbrev ent_exA : FuncId × List Nat × Tab := (46, [], tab_exA)
attribute [go_sem] tab_exA_eq
theorem exB_spec  (hpre : True) : Ret Tryd.prog 47 [] (ints [1, 1, 2, 2, 0]) := by
  refine fn_of (T := [ent_list7]) (N := 3) (RO := [1]) (CH := []) (KS := [0]) (NS := []) (fun args w => Tryd.call47 args w) Tryd.func47 rfl rfl (by simp) mixed (by kernel_rfl) ⟨tab_list7_ok, trivial⟩ ?_
  simp only [go_sem, ↓reduceIte, Nat.reduceLT, Nat.reduceLeDiff, Nat.reduceEqDiff, Nat.reduceAdd, Nat.reduceSub, Nat.reduceDiv, Nat.reduceMod, Nat.reduceMul, Nat.reduceBEq, Nat.reduceBNe, reduceCtorEq, Int.reduceLT, Int.reduceLE, Int.reduceEq, Int.reduceNe, Int.reduceBEq, Int.reduceBNe, Int.reduceAdd, Int.reduceSub, Int.reduceNeg, Int.reduceToNat]
  simp only [go_sem, ↓reduceIte, Nat.reduceLT, Nat.reduceLeDiff, Nat.reduceEqDiff, Nat.reduceAdd, Nat.reduceSub, Nat.reduceDiv, Nat.reduceMod, Nat.reduceMul, Nat.reduceBEq, Nat.reduceBNe, reduceCtorEq, Int.reduceLT, Int.reduceLE, Int.reduceEq, Int.reduceNe, Int.reduceBEq, Int.reduceBNe, Int.reduceAdd, Int.reduceSub, Int.reduceNeg, Int.reduceToNat, f5]
  exact ex_le_refl rfl
noncomputable def tab_exB : Tab := tabOf (fun p : (Unit) => match p with | _u => []) (fun p : (Unit) => match p with | _u => True) (fun p : (Unit) => match p with | _u => ints [1, 1, 2, 2, 0])
theorem tab_exB_eq  : tab_exB [] = some (True, .p (ints [1, 1, 2, 2, 0])) := tabOf_eq (enc := fun p : (Unit) => match p with | _u => []) (pre := fun p : (Unit) => match p with | _u => True) (out := fun p : (Unit) => match p with | _u => ints [1, 1, 2, 2, 0]) (by intro a b _; rfl) ()
theorem tab_exB_ok : TabOK Tryd.prog 47 tab_exB := tabOf_ok (by rintro _ h; exact exB_spec  h)
noncomputable abbrev ent_exB : FuncId × List Nat × Tab := (47, [], tab_exB)
attribute [go_sem] tab_exB_eq
theorem k7_e1 : tab_lot7 [intP 3, ints [1, 1, 2, 2, 0]] = some (True, .p (resP (([0, 2, 4] : List Int), 0))) := tab_rw (tab_lot7_eq _ _) (by decide) (by rw [show lotM 3 ([1, 1, 2, 2, 0] : List Int) = (([0, 2, 4] : List Int), 0) by decide +kernel])
theorem k7_e2 : tab_lots7 [intP 3, ints [1, 1, 2, 2, 0]] = some (True, .p (resN (4, 0))) := tab_rw (tab_lots7_eq _ _) (by decide) (by rw [show lotsM 3 ([1, 1, 2, 2, 0] : List Int) = (4, 0) by decide +kernel])
theorem k7_e3 : tab_most7 [intP 2, ints [1, 1, 0, 0, 1]] = some (True, .p (resLL ([([0, 1] : List Int), ([2, 3] : List Int)], 0))) := tab_rw (tab_most7_eq _ _) (by decide) (by rw [show mostM 2 ([1, 1, 0, 0, 1] : List Int) = ([([0, 1] : List Int), ([2, 3] : List Int)], 0) from mostM_eval (d := 2) (by decide +kernel) (by decide) (by decide) (by decide +kernel) (by decide +kernel) (by decide +kernel)])
theorem k7_e4 : tab_two7 [intP 3, ints [1, 1, 2, 2]] = some (True, .p (res3 (1, 2, 0))) := tab_rw (tab_two7_eq _ _) (by decide) (by rw [show twoM 3 ([1, 1, 2, 2] : List Int) = (1, 2, 0) by decide +kernel])
theorem k7_e5 : tab_without7 [intP 3] = some (True, .p (resP (([0, 0, 1, 1] : List Int), 0))) := tab_rw (tab_without7_eq _) trivial (by rw [show withoutM 3 = (([0, 0, 1, 1] : List Int), 0) by decide +kernel])
theorem k7_e6 : tab_some7 [intP 3, ints [1, 2, 1]] = some (True, .p (resP (([0, 1] : List Int), 0))) := tab_rw (tab_some7_eq _ _) (by decide) (by rw [show someM 3 ([1, 2, 1] : List Int) = (([0, 1] : List Int), 0) by decide +kernel])
theorem k7_e7 : tab_row7 [intP 3, ints [1, 1, 2, 2]] = some (True, .p (res3 (0, 4, 0))) := tab_rw (tab_row7_eq _ _) (by decide) (by rw [show rowM 3 ([1, 1, 2, 2] : List Int) = (0, 4, 0) by decide +kernel])
theorem k7_e8 : tab_leaves7 [intP 3, ints [1, 1, 2, 2], intP 3] = some (True, .p (resP (([1, 2] : List Int), 0))) := tab_rw (tab_leaves7_eq _ _ _) (by decide) (by rw [show leavesM 3 ([1, 1, 2, 2] : List Int) 3 = (([1, 2] : List Int), 0) by decide +kernel])
theorem k7_e9 : tab_sums7 [intP 5, ints [0, 1], ints [0, 2]] = some (True, .p (resP (([0, 1, 2, 3] : List Int), 0))) := tab_rw (tab_sums7_eq _ _ _) (by decide) (by rw [show sumsM 5 ([0, 1] : List Int) ([0, 2] : List Int) = (([0, 1, 2, 3] : List Int), 0) by decide +kernel])
theorem k7_e10 : tab_lot7 [intP 3, ints [1, 1, 2, 2]] = some (True, .p (resP (([] : List Int), 12))) := tab_rw (tab_lot7_eq _ _) (by decide) (by rw [show lotM 3 ([1, 1, 2, 2] : List Int) = (([] : List Int), 12) by decide +kernel])
theorem k7_e11 : tab_two7 [intP 3, ints [1, 2, 0, 0]] = some (True, .p (res3 (0, 0, 13))) := tab_rw (tab_two7_eq _ _) (by decide) (by rw [show twoM 3 ([1, 2, 0, 0] : List Int) = (0, 0, 13) by decide +kernel])
theorem k7_e12 : tab_some7 [intP 3, ints [1, 1]] = some (True, .p (resP (([] : List Int), 12))) := tab_rw (tab_some7_eq _ _) (by decide) (by rw [show someM 3 ([1, 1] : List Int) = (([] : List Int), 12) by decide +kernel])
theorem k7_e13 : tab_row7 [intP 3, ints [1, 1]] = some (True, .p (res3 (0, 0, 12))) := tab_rw (tab_row7_eq _ _) (by decide) (by rw [show rowM 3 ([1, 1] : List Int) = (0, 0, 12) by decide +kernel])
theorem k7_e14 : tab_proves7 [intP 3, ints [1, 1, 2, 2, 0], ints [0, 2, 4]] = some (True, .p (errP 0)) := tab_rw (tab_proves7_eq _ _ _) (by decide) (by rw [show provesM 3 ([1, 1, 2, 2, 0] : List Int) ([0, 2, 4] : List Int) = 0 by decide +kernel])
theorem k7_e15 : tab_proves7 [intP 3, ints [1, 1, 2, 2, 0], ints [0, 1, 2]] = some (True, .p (errP 14)) := tab_rw (tab_proves7_eq _ _ _) (by decide) (by rw [show provesM 3 ([1, 1, 2, 2, 0] : List Int) ([0, 1, 2] : List Int) = 14 by decide +kernel])
theorem works_spec  (hpre : True) : Ret Tryd.prog 16 [] (boolP true) := by
  refine fn_of (T := [ent_exA, ent_exB, ent_list7, ent_same7, ent_check7, ent_lot7, ent_lots7, ent_most7, ent_proves7, ent_two7, ent_without7, ent_some7, ent_row7, ent_leaves7, ent_sums7]) (N := 214) (RO := [30, 46, 89, 91, 102, 109, 115, 145, 155, 156, 157, 170, 176, 190, 196, 202, 209]) (CH := []) (KS := [0, 1, 2, 3, 4, 5, 6, 7, 8, 9, 10, 11, 12, 13, 14, 15, 16, 17, 18, 82]) (NS := []) (fun args w => Tryd.call16 args w) Tryd.func16 rfl rfl (by simp) mixed (by kernel_rfl) ⟨tab_exA_ok, tab_exB_ok, tab_list7_ok, tab_same7_ok, tab_check7_ok, tab_lot7_ok, tab_lots7_ok, tab_most7_ok, tab_proves7_ok, tab_two7_ok, tab_without7_ok, tab_some7_ok, tab_row7_ok, tab_leaves7_ok, tab_sums7_ok, trivial⟩ ?_
  have d1 : ∀ l : List Int, decide (l = l) = true := fun l => by simp
  have d2 : ∀ l : List (List Int), decide (l = l) = true := fun l => by simp
  have z3 : sz 3 := by unfold sz; omega
  have z2 : sz 2 := by unfold sz; omega
  have z4 : sz 4 := by unfold sz; omega
  have hl : (sz ([[0, 1], [2, 3]] : List (List Int)).length ∧ sz ([[0, 1], [2, 3]] : List (List Int)).length) ∧ (∀ x ∈ ([[0, 1], [2, 3]] : List (List Int)), sz x.length) ∧ ∀ x ∈ ([[0, 1], [2, 3]] : List (List Int)), sz x.length := by decide
  simp (maxSteps := 4000000) only [go_sem, ↓reduceIte, Nat.reduceLT, Nat.reduceLeDiff, Nat.reduceEqDiff, Nat.reduceAdd, Nat.reduceSub, Nat.reduceDiv, Nat.reduceMod, Nat.reduceMul, Nat.reduceBEq, Nat.reduceBNe, reduceCtorEq, Int.reduceLT, Int.reduceLE, Int.reduceEq, Int.reduceNe, Int.reduceBEq, Int.reduceBNe, Int.reduceAdd, Int.reduceSub, Int.reduceNeg, Int.reduceToNat, f1, f2, f3, f4, f5, g1, g2, d1, d2, k7_e1, k7_e2, k7_e3, k7_e4, k7_e5, k7_e6, k7_e7, k7_e8, k7_e9, k7_e10, k7_e11, k7_e12, k7_e13, k7_e14, k7_e15]
  (repeat with_reducible refine And.intro (by (repeat' with_reducible refine And.intro ?_ ?_) <;> first | with_reducible assumption | omega | (simp only [InK_i64, InK_u64, InK_u8]; omega) | (unfold sz; omega) | exact True.intro) ?_)
  refine vret_pure (lists7_spec [[0, 1], [2, 3]] [[0, 1], [2, 3]] hl) rfl (LeL.cons (Le.refl _) (LeL.cons (Le.list (LeL.cons Le.tight (LeL.cons Le.tight LeL.nil))) LeL.nil)) (by decide) ?_
  simp (maxSteps := 4000000) only [go_sem, ↓reduceIte, Nat.reduceLT, Nat.reduceLeDiff, Nat.reduceEqDiff, Nat.reduceAdd, Nat.reduceSub, Nat.reduceDiv, Nat.reduceMod, Nat.reduceMul, Nat.reduceBEq, Nat.reduceBNe, reduceCtorEq, Int.reduceLT, Int.reduceLE, Int.reduceEq, Int.reduceNe, Int.reduceBEq, Int.reduceBNe, Int.reduceAdd, Int.reduceSub, Int.reduceNeg, Int.reduceToNat, f1, f2, f3, f4, f5, g1, g2, d1, d2, k7_e1, k7_e2, k7_e3, k7_e4, k7_e5, k7_e6, k7_e7, k7_e8, k7_e9, k7_e10, k7_e11, k7_e12, k7_e13, k7_e14, k7_e15]
  (repeat with_reducible refine And.intro (by (repeat' with_reducible refine And.intro ?_ ?_) <;> first | with_reducible assumption | omega | (simp only [InK_i64, InK_u64, InK_u8]; omega) | (unfold sz; omega) | exact True.intro) ?_)
  exact ex_le_refl rfl
noncomputable def tab_works : Tab := tabOf (fun p : (Unit) => match p with | _u => []) (fun p : (Unit) => match p with | _u => True) (fun p : (Unit) => match p with | _u => boolP true)
theorem tab_works_eq  : tab_works [] = some (True, .p (boolP true)) := tabOf_eq (enc := fun p : (Unit) => match p with | _u => []) (pre := fun p : (Unit) => match p with | _u => True) (out := fun p : (Unit) => match p with | _u => boolP true) (by intro a b _; rfl) ()
theorem tab_works_ok : TabOK Tryd.prog 16 tab_works := tabOf_ok (by rintro _ h; exact works_spec  h)
noncomputable abbrev ent_works : FuncId × List Nat × Tab := (16, [], tab_works)
attribute [go_sem] tab_works_eq
end Go.V

namespace Go.V
open Go.Proofs
set_option maxRecDepth 100000
set_option maxHeartbeats 4000000

theorem made_ok {n : Nat} {W : List Nat} {m : Nat} (h1 : 1 ≤ n) (h6 : n ≤ 6) (hm : m ≤ 12) (hW : W.length = 12) : Okl n (R7.madeL W m) where
  n1 := h1
  n6 := h6
  len := by rw [R7.madeL_length (by omega)]; omega
  lo x hx := (R7.madeL_bound x hx).1
  hi x hx := (R7.madeL_bound x hx).2
theorem Okl.check {n : Nat} {L : List Int} (h : Okl n L) : checkS n L = 0 := checkS_zero.2 ⟨⟨by have := h.n1; omega, by have := h.n6; omega⟩, h.len, fun x hx => ⟨h.lo x hx, h.hi x hx⟩⟩
/-- a whole list is accepted -/
theorem pErr_ok {L : List Int} : ∀ (l : List Nat) (a : Int), (∀ x ∈ l, a < (x : Int)) → l.Pairwise (· < ·) → (∀ x ∈ l, x < L.length) → pErr L (ofN l) a = 0
  | [], _, _, _, _ => rfl
  | x :: l, a, ha, hp, hl => by
    rw [List.pairwise_cons] at hp
    have h1 := hl x (by simp)
    have h2 := ha x (by simp)
    rw [ofN_cons, pErr, if_neg (by simp [inB]; omega), if_neg (by omega)]
    exact pErr_ok l x (fun y hy => by have := hp.1 y hy; omega) hp.2 fun y hy => hl y (by simp [hy])
theorem proves_whole {n : Nat} {L : List Int} (h : Okl n L) {l : List Nat} (hl : l ∈ R7.whole n L n) : provesM n L (ofN l) = 0 := by
  obtain ⟨h1, h2, h3⟩ := R7.whole_mem12 h.len hl
  have h4 := (List.mem_filter.1 hl).2
  rw [beq_iff_eq] at h4
  unfold provesM
  rw [if_pos h.check, if_pos (by rw [ofN_length, h3]), if_pos (pErr_ok l (-1) (fun x _ => by omega) h1 h2), wtI_ofN, if_pos h4]
theorem first_ziv {n : Nat} {L : List Int} (h : Okl n L) {l : List Nat} {r : List (List Nat)} (hw : R7.whole n L n = l :: r) : lotM n L = (ofN l, 0) := by
  unfold lotM
  rw [if_pos h.check, Int.toNat_natCast, hw]
theorem lots_ok {n : Nat} {L : List Int} (h : Okl n L) : lotsM n L = (((R7.whole n L n).length : Int), 0) := by
  unfold lotsM
  rw [if_pos h.check, Int.toNat_natCast]

theorem ziv1_spec (n : Nat) (hpre : 1 ≤ n ∧ n ≤ 6) : Ret Tryd.prog 53 [natP n] (natP (2 * n - 1)) := by
  refine fn_of (T := []) (N := 6) (RO := []) (CH := []) (KS := [0, 2]) (NS := []) (fun args w => Tryd.call53 args w) Tryd.func53 rfl rfl (by simp) mixed (by kernel_rfl) trivial ?_
  simp only [go_sem, ↓reduceIte, Nat.reduceLT, Nat.reduceLeDiff, Nat.reduceEqDiff, Nat.reduceAdd, Nat.reduceSub, Nat.reduceDiv, Nat.reduceMod, Nat.reduceMul, Nat.reduceBEq, Nat.reduceBNe, reduceCtorEq, Int.reduceLT, Int.reduceLE, Int.reduceEq, Int.reduceNe, Int.reduceBEq, Int.reduceBNe, Int.reduceAdd, Int.reduceSub, Int.reduceNeg, Int.reduceToNat]
  refine ⟨by rw [InK_i64]; omega, by rw [InK_i64]; omega, ex_le_refl (congrArg (fun x : Int => intP x) (by omega))⟩
noncomputable def tab_ziv1 : Tab := tabOf (fun p : (Nat) => match p with | n => [natP n]) (fun p : (Nat) => match p with | n => 1 ≤ n ∧ n ≤ 6) (fun p : (Nat) => match p with | n => natP (2 * n - 1))
theorem tab_ziv1_eq (n : Nat) : tab_ziv1 [natP n] = some (1 ≤ n ∧ n ≤ 6, .p (natP (2 * n - 1))) := tabOf_eq (enc := fun p : (Nat) => match p with | n => [natP n]) (pre := fun p : (Nat) => match p with | n => 1 ≤ n ∧ n ≤ 6) (out := fun p : (Nat) => match p with | n => natP (2 * n - 1)) (by rintro n n' h; simp at h; first | (simp [h]; done) | omega | (simp [h]; omega)) (n)
theorem tab_ziv1_ok : TabOK Tryd.prog 53 tab_ziv1 := tabOf_ok (by rintro n h; exact ziv1_spec n h)
noncomputable abbrev ent_ziv1 : FuncId × List Nat × Tab := (53, [], tab_ziv1)
attribute [go_sem] tab_ziv1_eq

theorem u16s_take12 {A : List Nat} (h : A.length = 12) : List.take 12 (lof u16P A) = lof u16P A := List.take_of_length_le (by rw [lof_length]; omega)

theorem LotZiv_spec (x : Nat × (List Nat)) (hpre : HeapOK x) : Ret Tryd.prog 12 [heapP x] (boolP true) := by
  refine fn_of (T := [ent_works, ent_wholesL, ent_lot7, ent_lots7, ent_check7, ent_proves7, ent_same7]) (N := 88) (RO := [1]) (CH := []) (KS := [0, 1, 2, 3, 4, 5, 6, 7, 8, 9, 68]) (NS := []) (fun args w => Tryd.call12 args w) Tryd.func12 rfl rfl (by simp) mixed (by kernel_rfl) ⟨tab_works_ok, tab_wholesL_ok, tab_lot7_ok, tab_lots7_ok, tab_check7_ok, tab_proves7_ok, tab_same7_ok, trivial⟩ ?_
  simp only [go_sem, ↓reduceIte, Nat.reduceLT, Nat.reduceLeDiff, Nat.reduceEqDiff, Nat.reduceAdd, Nat.reduceSub, Nat.reduceDiv, Nat.reduceMod, Nat.reduceMul, Nat.reduceBEq, Nat.reduceBNe, reduceCtorEq, Int.reduceLT, Int.reduceLE, Int.reduceEq, Int.reduceNe, Int.reduceBEq, Int.reduceBNe, Int.reduceAdd, Int.reduceSub, Int.reduceNeg, Int.reduceToNat]
  have hok := hpre
  obtain ⟨hs, hl, hlt⟩ := hpre
  have hr := Nat.mod_lt x.1 (show 6 > 0 by omega)
  obtain ⟨n, hn⟩ : ∃ n, 1 + x.1 % 6 = n := ⟨_, rfl⟩
  have h1 : 1 ≤ n := by omega
  have h6 : n ≤ 6 := by omega
  have hz1 := ziv1_spec n ⟨h1, h6⟩
  have ok := made_ok (W := x.2) (m := 2 * n - 1) h1 h6 (by omega) hl
  have hLl := R7.madeL_length (W := x.2) (m := 2 * n - 1) (by omega)
  have hmade := made_spec x 6 53 [] (2 * n - 1) hok (by omega) (by omega) (by omega) (by rw [hn]; exact hz1)
  rw [hn, show min (2 * n - 1) 12 = 2 * n - 1 by omega] at hmade
  obtain ⟨L, hL⟩ : ∃ L, R7.madeL x.2 (2 * n - 1) = L := ⟨_, rfl⟩
  rw [hL] at ok hmade hLl
  simp only [go_sem, ↓reduceIte, Nat.reduceLT, Nat.reduceLeDiff, Nat.reduceEqDiff, Nat.reduceAdd, Nat.reduceSub, Nat.reduceDiv, Nat.reduceMod, Nat.reduceMul, Nat.reduceBEq, Nat.reduceBNe, reduceCtorEq, Int.reduceLT, Int.reduceLE, Int.reduceEq, Int.reduceNe, Int.reduceBEq, Int.reduceBNe, Int.reduceAdd, Int.reduceSub, Int.reduceNeg, Int.reduceToNat, u16s_one, u16s_take12 hl]
  refine ⟨by omega, ?_⟩
  refine vret_pure hmade rfl (LeL.refl _) (by decide) ?_
  have h12 := ok.len
  have hne := R7.ziv h1 h6 L hLl
  obtain ⟨l, r, hw⟩ : ∃ l r, R7.whole n L n = l :: r := by
    cases h : R7.whole n L n with
    | nil => rw [h] at hne; simp at hne
    | cons l r => exact ⟨l, r, rfl⟩
  have hlm : l ∈ R7.whole n L n := by rw [hw]; simp
  have k1 := first_ziv ok hw
  have k2 := lots_ok ok
  have k3 := proves_whole ok hlm
  have k4 := ok.check
  have hlen := (R7.whole_mem12 h12 hlm).2.2
  rw [hw, List.length_cons] at k2
  have d1 : decide (ofN l = ofN l) = true := by simp
  have hg : (ofN l :: r.map ofN)[0]? = some (ofN l) := rfl
  have e0 : ((((r.length + 1 : Nat) : Int)) == 0) = false := by rw [beq_eq_false_iff_ne]; omega
  have e1 : (((r.length + 1 : Nat) : Int) != ((r.length + 1 : Nat) : Int)) = false := by simp
  have z1 : sz (ofN l).length := by rw [ofN_length]; unfold sz; omega
  have z2 : sz L.length := by unfold sz; omega
  simp only [go_sem, ↓reduceIte, Nat.reduceLT, Nat.reduceLeDiff, Nat.reduceEqDiff, Nat.reduceAdd, Nat.reduceSub, Nat.reduceDiv, Nat.reduceMod, Nat.reduceMul, Nat.reduceBEq, Nat.reduceBNe, reduceCtorEq, Int.reduceLT, Int.reduceLE, Int.reduceEq, Int.reduceNe, Int.reduceBEq, Int.reduceBNe, Int.reduceAdd, Int.reduceSub, Int.reduceNeg, Int.reduceToNat, hw, List.map_cons, List.length_cons, List.length_map, k1, k2, k3, k4, d1, e0, e1, lof_getD hg]
  (repeat with_reducible refine And.intro (by (repeat' with_reducible refine And.intro ?_ ?_) <;> first | with_reducible assumption | omega | (simp only [InK_i64, InK_u64, InK_u8]; omega) | (unfold sz; omega) | exact True.intro) ?_)
  have hcase : n = 1 ∨ n = 4 ∨ n = 6 ∨ n = 2 ∨ n = 3 ∨ n = 5 := by omega
  rcases hcase with h | h | h | h
  · have b1 : ((n : Int) == 4) = false := by rw [beq_eq_false_iff_ne]; omega
    have b2 : ((n : Int) == 6) = false := by rw [beq_eq_false_iff_ne]; omega
    have b3 : ((n : Int) == 1) = true := by rw [beq_iff_eq]; omega
    simp only [go_sem, ↓reduceIte, Nat.reduceLT, Nat.reduceLeDiff, Nat.reduceEqDiff, Nat.reduceAdd, Nat.reduceSub, Nat.reduceDiv, Nat.reduceMod, Nat.reduceMul, Nat.reduceBEq, Nat.reduceBNe, reduceCtorEq, Int.reduceLT, Int.reduceLE, Int.reduceEq, Int.reduceNe, Int.reduceBEq, Int.reduceBNe, Int.reduceAdd, Int.reduceSub, Int.reduceNeg, Int.reduceToNat, b1, b2, b3]
    exact ex_le_refl rfl
  · have b1 : ((n : Int) == 4) = true := by rw [beq_iff_eq]; omega
    simp only [go_sem, ↓reduceIte, Nat.reduceLT, Nat.reduceLeDiff, Nat.reduceEqDiff, Nat.reduceAdd, Nat.reduceSub, Nat.reduceDiv, Nat.reduceMod, Nat.reduceMul, Nat.reduceBEq, Nat.reduceBNe, reduceCtorEq, Int.reduceLT, Int.reduceLE, Int.reduceEq, Int.reduceNe, Int.reduceBEq, Int.reduceBNe, Int.reduceAdd, Int.reduceSub, Int.reduceNeg, Int.reduceToNat, b1]
    exact ex_le_refl rfl
  · have b1 : ((n : Int) == 4) = false := by rw [beq_eq_false_iff_ne]; omega
    have b2 : ((n : Int) == 6) = true := by rw [beq_iff_eq]; omega
    simp only [go_sem, ↓reduceIte, Nat.reduceLT, Nat.reduceLeDiff, Nat.reduceEqDiff, Nat.reduceAdd, Nat.reduceSub, Nat.reduceDiv, Nat.reduceMod, Nat.reduceMul, Nat.reduceBEq, Nat.reduceBNe, reduceCtorEq, Int.reduceLT, Int.reduceLE, Int.reduceEq, Int.reduceNe, Int.reduceBEq, Int.reduceBNe, Int.reduceAdd, Int.reduceSub, Int.reduceNeg, Int.reduceToNat, b1, b2]
    exact ex_le_refl rfl
  · have b1 : ((n : Int) == 4) = false := by rw [beq_eq_false_iff_ne]; omega
    have b2 : ((n : Int) == 6) = false := by rw [beq_eq_false_iff_ne]; omega
    have b3 : ((n : Int) == 1) = false := by rw [beq_eq_false_iff_ne]; omega
    have hzc := R7.ziv_count h L hLl
    rw [hw, List.length_cons] at hzc
    have b4 : ((((r.length + 1 : Nat) : Int)) % (n : Int) == 1) = true := by rw [beq_iff_eq]; omega
    simp only [go_sem, ↓reduceIte, Nat.reduceLT, Nat.reduceLeDiff, Nat.reduceEqDiff, Nat.reduceAdd, Nat.reduceSub, Nat.reduceDiv, Nat.reduceMod, Nat.reduceMul, Nat.reduceBEq, Nat.reduceBNe, reduceCtorEq, Int.reduceLT, Int.reduceLE, Int.reduceEq, Int.reduceNe, Int.reduceBEq, Int.reduceBNe, Int.reduceAdd, Int.reduceSub, Int.reduceNeg, Int.reduceToNat, b1, b2, b3, b4]
    (repeat with_reducible refine And.intro (by (repeat' with_reducible refine And.intro ?_ ?_) <;> first | with_reducible assumption | omega | (simp only [InK_i64, InK_u64, InK_u8]; omega) | (unfold sz; omega) | exact True.intro) ?_)
    exact ex_le_refl rfl
end Go.V

set_option linter.unusedVariables false
namespace Go.V
attribute [go_sem_proc ↓] reduceIte
attribute [go_sem_proc] Nat.reduceLT Nat.reduceLeDiff Nat.reduceEqDiff Nat.reduceAdd Nat.reduceSub Nat.reduceDiv Nat.reduceMod Nat.reduceMul Nat.reduceBEq Nat.reduceBNe reduceCtorEq Int.reduceLT Int.reduceLE Int.reduceEq Int.reduceNe Int.reduceBEq Int.reduceBNe Int.reduceAdd Int.reduceSub Int.reduceNeg Int.reduceToNat
end Go.V

set_option linter.unusedVariables false
namespace Go.V
open Go.Proofs
set_option maxRecDepth 100000
set_option maxHeartbeats 4000000

theorem rowLawRev : RowLawI Tryd.prog 50 List.reverse := rowLaw_reverse Tryd.lays112 (fun args w => Tryd.call50 args w)
theorem shown1_spec (n : Nat) (k : Nat) (hpre : k < 256) : Ret Tryd.prog 48 [natP n, .ref [u8P k] 0] (natP (k / 8 % 13)) := by
  refine fn_of (T := []) (N := 8) (RO := []) (CH := []) (KS := [1, 3]) (NS := []) (fun args w => Tryd.call48 args w) Tryd.func48 rfl rfl (by simp) mixed (by kernel_rfl) trivial ?_
  simp only [go_sem]
  refine ⟨?_, ?_, ?_, ex_le_refl (congrArg (fun x : Int => intP x) (by omega))⟩ <;> first | omega | (rw [InK_i64]; omega) | (rw [InK_u8]; omega) | skip
noncomputable def tab_shown1 : Tab := tabOf (fun p : (Nat) × (Nat) => match p with | (n, k) => [natP n, .ref [u8P k] 0]) (fun p : (Nat) × (Nat) => match p with | (n, k) => k < 256) (fun p : (Nat) × (Nat) => match p with | (n, k) => natP (k / 8 % 13))
theorem tab_shown1_eq (n : Nat) (k : Nat) : tab_shown1 [natP n, .ref [u8P k] 0] = some (k < 256, .p (natP (k / 8 % 13))) := tabOf_eq (enc := fun p : (Nat) × (Nat) => match p with | (n, k) => [natP n, .ref [u8P k] 0]) (pre := fun p : (Nat) × (Nat) => match p with | (n, k) => k < 256) (out := fun p : (Nat) × (Nat) => match p with | (n, k) => natP (k / 8 % 13)) (by rintro ⟨n, k⟩ ⟨n', k'⟩ h; simp at h; first | (simp [h]; done) | omega | (simp [h]; omega)) (n, k)
theorem tab_shown1_ok : TabOK Tryd.prog 48 tab_shown1 := tabOf_ok (by rintro ⟨n, k⟩ h; exact shown1_spec n k h)
noncomputable abbrev ent_shown1 : FuncId × List Nat × Tab := (48, [], tab_shown1)
attribute [go_sem] tab_shown1_eq
theorem prov_of {n : Nat} {L : List Int} (h : Okl n L) (l : List Int) : provesM n L l = if (l.length : Int) = n then (if pErr L l (-1) = 0 then (if wtI L l % n = 0 then 0 else 14) else pErr L l (-1)) else 5 := by unfold provesM; rw [if_pos h.check]
theorem in_take' {L : List Int} {l : List Int} {k : Nat} {x : Int} (h : ∀ y ∈ l.take k, 0 ≤ y ∧ y < L.length) (hx : l[k]? = some x) (hb : inB x 0 ((L.length : Int) - 1) = true) : ∀ y ∈ l.take (k + 1), 0 ≤ y ∧ y < L.length := fun y hy => by
  rw [take_succ_of hx] at hy
  rcases List.mem_append.1 hy with h1 | h1
  · exact h y h1
  · rw [List.mem_singleton] at h1; subst h1; simp [inB] at hb; omega

theorem LotShown_spec (x : Nat × (List Nat)) (B : List Nat) (k : Nat) (hpre : HeapOK x ∧ U8s 6 B ∧ k < 256) : Ret Tryd.prog 10 [heapP x, .agg (lof u8P B), u8P k] (boolP true) := by
  refine fn_of (T := [ent_works, ent_proves7]) (N := 108) (RO := [3, 4, 5, 40]) (CH := []) (KS := [0, 1, 2, 3, 4, 5, 6, 7, 8, 9, 11, 12, 13, 14, 15, 29, 30, 31, 32, 47, 50, 51, 52, 53, 58, 65, 74, 94, 98]) (NS := [9, 41]) (fun args w => Tryd.call10 args w) Tryd.func10 rfl rfl (by simp) mixed (by kernel_rfl) ⟨tab_works_ok, tab_proves7_ok, trivial⟩ ?_
  simp only [go_sem]
  obtain ⟨hok, ⟨hB, hB2⟩, hk⟩ := hpre
  have hl := hok.len
  have hr := Nat.mod_lt x.1 (show 6 > 0 by omega)
  obtain ⟨n, hn⟩ : ∃ n, 1 + x.1 % 6 = n := ⟨_, rfl⟩
  have h1 : 1 ≤ n := by omega
  have h6 : n ≤ 6 := by omega
  have hz1 := shown1_spec n k hk
  have ok := made_ok (W := x.2) (m := k / 8 % 13) h1 h6 (by omega) hl
  have hmade := made_spec x 6 48 [.ref [u8P k] 0] (k / 8 % 13) hok (by omega) (by omega) (by omega) (by rw [hn]; exact hz1)
  rw [hn, show min (k / 8 % 13) 12 = k / 8 % 13 by omega] at hmade
  obtain ⟨L, hL⟩ : ∃ L, R7.madeL x.2 (k / 8 % 13) = L := ⟨_, rfl⟩
  rw [hL] at ok hmade
  have hB1 : List.take 6 (lof u8P B) = lof u8P B := List.take_of_length_le (by rw [lof_length]; omega)
  simp only [go_sem, u16s_one, u16s_take12 hl, u8s_one, hB1]
  (repeat with_reducible refine And.intro (by (repeat' with_reducible refine And.intro ?_ ?_) <;> first | with_reducible assumption | omega | (simp only [InK_i64, InK_u64, InK_u8]; omega) | (unfold sz; omega) | exact True.intro) ?_)
  refine vret_pure hmade rfl (LeL.refl _) (by decide) ?_
  simp only [go_sem]
  obtain ⟨m, hm⟩ : ∃ m, min (n + k % 8 / 7) 6 = m := ⟨_, rfl⟩
  have em : (if (6 : Int) < (n : Int) + (k : Int) % 8 / 7 then (6 : Int) else (n : Int) + (k : Int) % 8 / 7) = (m : Int) := by split <;> omega
  have hm6 : m ≤ 6 := by omega
  have hm1 : 1 ≤ m := by omega
  have hwk : (B.take m).length = m := by rw [List.length_take]; omega
  rw [em, Int.toNat_natCast, lof_take, lof_length, hwk]
  refine ⟨by rw [InK_i64]; omega, ⟨by omega, by rw [InK_i64]; omega⟩, by rw [InK_i64]; omega, by omega, ?_⟩
  obtain ⟨Z, hZ⟩ : ∃ Z : List Int, (B.take m).map (fun b => ((b % 14 : Nat) : Int) - 1) = Z := ⟨_, rfl⟩
  have hZl : Z.length = m := by rw [← hZ, List.length_map, hwk]
  refine vfor [5,7,8,9,29,30,31] [9] [.nilS 9 3 1] m (fun _ => True) (fun j => ⟨[(5,.p (.ref [u8P k] 0)),(7,.p (natP n)),(8,.p (ints L)),(9,.sl 9),(29,.p (.list .any 1 (lof u8P (B.take m)))),(30,.p (natP m)),(31,.p (natP j))], [(9,.vec 3 1 (lof intP (Z.take j)))]⟩) (by first | rfl | (simp only [go_sem]; first | done | rfl)) trivial ?_
  intro j hj _
  by_cases hlt : j < m
  · obtain ⟨b, hb⟩ := get_some (show j < (B.take m).length by omega)
    have hb2 := hB2 b (List.mem_of_mem_take (List.mem_of_getElem? hb))
    have hts : Z.take (j + 1) = Z.take j ++ [((b % 14 : Nat) : Int) - 1] := take_succ_of (by rw [← hZ, List.getElem?_map, hb]; rfl)
    have e3 : (b : Int) % 14 = ((b % 14 : Nat) : Int) := by omega
    have hlen : (Z.take j).length ≤ 4294967295 := by rw [List.length_take]; omega
    simp only [go_sem, hlt, lof_getD hb, lof_length, hwk, e3]
    rw [hts]
    exact ⟨by rw [InK_i64]; omega, by rw [InK_i64]; omega, hlen, by rw [InK_i64]; omega, by simp [lof]⟩
  · obtain rfl : j = m := by omega
    have hZt : Z.take j = Z := List.take_of_length_le (by omega)
    rw [hZt]
    have hne : Z ≠ [] := fun e => by rw [e] at hZl; simp at hZl; omega
    simp only [go_sem, Nat.lt_irrefl]
    refine vcall_sortI sortLawI (l := Z) (by simp only [go_sem, seval]; first | done | rfl) hne (by decide) (by omega) ?_
    obtain ⟨Y, hY⟩ : ∃ Y, (Z.mergeSort fun x y => decide (x ≤ y)) = Y := ⟨_, rfl⟩
    have hYl : Y.length = j := by rw [← hY, List.length_mergeSort, hZl]
    rw [hY]
    simp only [go_sem]
    cases hk4 : ((k : Int) % 4 == 1) with
    | false =>
      simp only [go_sem, hk4]
      clear hY
      have hprov := prov_of ok Y
      have hwb := fun i => wtI_bound ok (Y.take i)
      have hLl := ok.len
      have hYz : sz Y.length := by unfold sz; omega
      have hLz : sz L.length := by unfold sz; omega
      refine vwhile [7,8,9,12,13,50,51,52] [] [.seal 9] (fun d : Nat × Int × Int => d.1 ≤ Y.length ∧ (d.2.1 = 0 → pErr L Y (-1) = pErr L (Y.drop d.1) (lastAt Y d.1) ∧ (∀ x ∈ Y.take d.1, 0 ≤ x ∧ x < L.length) ∧ d.2.2 = wtI L (Y.take d.1)) ∧ (d.2.1 ≠ 0 → pErr L Y (-1) = d.2.1)) (fun d => Y.length - d.1)
        (fun d => ⟨[(7,.p (natP n)),(8,.p (ints L)),(9,.p (ints Y)),(12,.p (errP d.2.1)),(13,.p (intP d.2.2)),(50,.p (ints Y)),(51,.p (natP Y.length)),(52,.p (natP d.1))], []⟩) (0, 0, 0) (by first | rfl | (simp only [go_sem]; first | done | rfl)) ⟨by simp, fun _ => ⟨rfl, by simp, rfl⟩, fun h => absurd rfl h⟩ ?_
      rintro ⟨i, e, s⟩ ⟨hi, hI0, hI1⟩
      simp only at hi hI0 hI1
      by_cases he : e = 0
      · subst he
        obtain ⟨hI, hin, rfl⟩ := hI0 rfl
        have hwi := hwb i
        have hti : (Y.take i).length ≤ 6 := by rw [List.length_take]; omega
        by_cases hil : i < Y.length
        · obtain ⟨z, hz⟩ := get_some hil
          have hd : Y.drop i = z :: Y.drop (i + 1) := by rw [List.drop_eq_getElem_cons hil]; simp [List.getElem?_eq_getElem hil] at hz; rw [hz]
          rw [hd, pErr] at hI
          have hla := lastAt_succ hz
          by_cases hz0 : z < 0
          · have hb : inB z 0 ((L.length : Int) - 1) = false := by simp [inB]; omega
            rw [hb, if_pos rfl] at hI
            simp only [go_sem, hil, lof_getD hz, hz0]
            exact ⟨by rw [InK_i64]; omega, (i + 1, 2, wtI L (Y.take i)), by simp only; omega, ⟨by simp only; omega, (fun h => (by cases h)), fun _ => hI⟩, rfl⟩
          · by_cases hzL : (L.length : Int) ≤ z
            · have hb : inB z 0 ((L.length : Int) - 1) = false := by simp [inB]; omega
              rw [hb, if_pos rfl] at hI
              simp only [go_sem, hil, lof_getD hz, hz0, hzL]
              exact ⟨by rw [InK_i64]; omega, (i + 1, 2, wtI L (Y.take i)), by simp only; omega, ⟨by simp only; omega, (fun h => (by cases h)), fun _ => hI⟩, rfl⟩
            · have hb : inB z 0 ((L.length : Int) - 1) = true := by simp [inB]; omega
              rw [hb, if_neg (by simp)] at hI
              obtain ⟨q, rfl⟩ : ∃ q : Nat, z = q := ⟨z.toNat, by omega⟩
              obtain ⟨w, hw⟩ := get_some (show q < L.length by omega)
              have hw2 : wtI L (Y.take (i + 1)) = wtI L (Y.take i) + w := by rw [take_succ_of hz, wtI_snoc, Int.toNat_natCast, List.getD_eq_getElem?_getD, hw]; rfl
              have hwlo := ok.lo w (List.mem_of_getElem? hw)
              have hwhi := ok.hi w (List.mem_of_getElem? hw)
              by_cases hi0 : i = 0
              · subst hi0
                have hle : ¬ (q : Int) ≤ lastAt Y 0 := by unfold lastAt; simp; omega
                rw [if_neg hle, ← hla] at hI
                simp only [go_sem, hil, lof_getD hz, hz0, hzL, lof_getD hw, show (0 : Int) < (Y.length : Int) by omega]
                exact ⟨by omega, by rw [InK_i64]; simp [wtI]; omega, by rw [InK_i64]; omega, (1, 0, wtI L (Y.take 1)), by simp only; omega, ⟨by simp only; omega, fun _ => ⟨hI, in_take' hin hz hb, rfl⟩, fun h => absurd rfl h⟩, by rw [hw2]; rfl⟩
              · obtain ⟨y, hy⟩ := get_some (show i - 1 < Y.length by omega)
                have hly : lastAt Y i = y := by unfold lastAt; rw [if_neg hi0, List.getD_eq_getElem?_getD, hy]; rfl
                have ei : (i : Int) - 1 = ((i - 1 : Nat) : Int) := by omega
                rw [hly] at hI
                by_cases hle : (q : Int) ≤ y
                · rw [if_pos hle] at hI
                  simp only [go_sem, hil, lof_getD hz, hz0, hzL, lof_getD hw, show (0 : Int) < (i : Int) by omega, ei, Int.toNat_natCast, lof_getD hy, hle]
                  exact ⟨by rw [InK_i64]; omega, by omega, by rw [InK_i64]; omega, (i + 1, 7, wtI L (Y.take i)), by simp only; omega, ⟨by simp only; omega, (fun h => (by cases h)), fun _ => hI⟩, rfl⟩
                · rw [if_neg hle, ← hla] at hI
                  simp only [go_sem, hil, lof_getD hz, hz0, hzL, lof_getD hw, show (0 : Int) < (i : Int) by omega, ei, Int.toNat_natCast, lof_getD hy, hle]
                  exact ⟨by rw [InK_i64]; omega, by omega, by omega, by rw [InK_i64]; omega, by rw [InK_i64]; omega, (i + 1, 0, wtI L (Y.take (i + 1))), by simp only; omega, ⟨by simp only; omega, fun _ => ⟨hI, in_take' hin hz hb, rfl⟩, fun h => absurd rfl h⟩, by rw [hw2]; rfl⟩
        · obtain rfl : i = Y.length := by omega
          rw [List.drop_length, pErr] at hI
          rw [List.take_length] at *
          by_cases hyn : (Y.length : Int) = n
          · have hynb : ((Y.length : Int) != (n : Int)) = false := by simp [hyn]
            by_cases hv : wtI L Y % n = 0
            · have hp : provesM n L Y = 0 := by rw [hprov, if_pos hyn, if_pos hI, if_pos hv]
              have hvb : (wtI L Y % (n : Int) != 0) = false := by simp [hv]
              simp only [go_sem, Nat.lt_irrefl, hvb, hynb, hp]
              exact ⟨⟨hwi.1, by omega⟩, ⟨hLz, hYz⟩, ex_le_refl rfl⟩
            · have hp : provesM n L Y = 14 := by rw [hprov, if_pos hyn, if_pos hI, if_neg hv]
              have hvb : (wtI L Y % (n : Int) != 0) = true := by simp [hv]
              simp only [go_sem, Nat.lt_irrefl, hvb, hynb, hp]
              exact ⟨⟨hwi.1, by omega⟩, ⟨hLz, hYz⟩, ex_le_refl rfl⟩
          · have hynb : ((Y.length : Int) != (n : Int)) = true := by simp [hyn]
            have hp : provesM n L Y = 5 := by rw [hprov, if_neg hyn]
            cases hvb : (wtI L Y % (n : Int) != 0) with
            | false =>
              simp only [go_sem, Nat.lt_irrefl, hvb, hynb, hp]
              exact ⟨⟨hwi.1, by omega⟩, ⟨hLz, hYz⟩, ex_le_refl rfl⟩
            | true =>
              simp only [go_sem, Nat.lt_irrefl, hvb, hynb, hp]
              exact ⟨⟨hwi.1, by omega⟩, ⟨hLz, hYz⟩, ex_le_refl rfl⟩
      · have hI := hI1 he
        have heb : (e != 0) = true := by simp [he]
        have heb2 : (e == 0) = false := by simp [he]
        have hfin : provesM n L Y = if (Y.length : Int) = n then e else 5 := by rw [hprov, hI, if_neg he]
        by_cases hyn : (Y.length : Int) = n
        · have hynb : ((Y.length : Int) != (n : Int)) = false := by simp [hyn]
          rw [if_pos hyn] at hfin
          have d1 : (e == e) = true := by simp
          by_cases hil : i < Y.length
          · obtain ⟨z, hz⟩ := get_some hil
            simp only [go_sem, hil, lof_getD hz, heb, heb2, hynb, hfin, d1]
            exact ⟨⟨hLz, hYz⟩, ex_le_refl rfl⟩
          · simp only [go_sem, hil, heb, heb2, hynb, hfin, d1]
            exact ⟨⟨hLz, hYz⟩, ex_le_refl rfl⟩
        · have hynb : ((Y.length : Int) != (n : Int)) = true := by simp [hyn]
          rw [if_neg hyn] at hfin
          by_cases hil : i < Y.length
          · obtain ⟨z, hz⟩ := get_some hil
            simp only [go_sem, hil, lof_getD hz, heb, heb2, hynb, hfin]
            exact ⟨⟨hLz, hYz⟩, ex_le_refl rfl⟩
          · simp only [go_sem, hil, heb, heb2, hynb, hfin]
            exact ⟨⟨hLz, hYz⟩, ex_le_refl rfl⟩
    | true =>
      simp only [go_sem, hk4]
      refine vcall_rowI rowLawRev (l := Y) (by simp only [go_sem, seval]; first | done | rfl) (by intro e; rw [e] at hYl; simp at hYl; omega) (by decide) (by omega) ?_
      simp only [go_sem]
      have hYr : Y.reverse.length = j := by rw [List.length_reverse, hYl]
      obtain ⟨Y, hY3⟩ : ∃ Z', Z' = Y.reverse := ⟨_, rfl⟩
      rw [← hY3] at hYr ⊢
      have hYl := hYr
      have hprov := prov_of ok Y
      have hwb := fun i => wtI_bound ok (Y.take i)
      have hLl := ok.len
      have hYz : sz Y.length := by unfold sz; omega
      have hLz : sz L.length := by unfold sz; omega
      refine vwhile [7,8,9,12,13,50,51,52] [] [.seal 9] (fun d : Nat × Int × Int => d.1 ≤ Y.length ∧ (d.2.1 = 0 → pErr L Y (-1) = pErr L (Y.drop d.1) (lastAt Y d.1) ∧ (∀ x ∈ Y.take d.1, 0 ≤ x ∧ x < L.length) ∧ d.2.2 = wtI L (Y.take d.1)) ∧ (d.2.1 ≠ 0 → pErr L Y (-1) = d.2.1)) (fun d => Y.length - d.1)
        (fun d => ⟨[(7,.p (natP n)),(8,.p (ints L)),(9,.p (ints Y)),(12,.p (errP d.2.1)),(13,.p (intP d.2.2)),(50,.p (ints Y)),(51,.p (natP Y.length)),(52,.p (natP d.1))], []⟩) (0, 0, 0) (by first | rfl | (simp only [go_sem]; first | done | rfl)) ⟨by simp, fun _ => ⟨rfl, by simp, rfl⟩, fun h => absurd rfl h⟩ ?_
      rintro ⟨i, e, s⟩ ⟨hi, hI0, hI1⟩
      simp only at hi hI0 hI1
      by_cases he : e = 0
      · subst he
        obtain ⟨hI, hin, rfl⟩ := hI0 rfl
        have hwi := hwb i
        have hti : (Y.take i).length ≤ 6 := by rw [List.length_take]; omega
        by_cases hil : i < Y.length
        · obtain ⟨z, hz⟩ := get_some hil
          have hd : Y.drop i = z :: Y.drop (i + 1) := by rw [List.drop_eq_getElem_cons hil]; simp [List.getElem?_eq_getElem hil] at hz; rw [hz]
          rw [hd, pErr] at hI
          have hla := lastAt_succ hz
          by_cases hz0 : z < 0
          · have hb : inB z 0 ((L.length : Int) - 1) = false := by simp [inB]; omega
            rw [hb, if_pos rfl] at hI
            simp only [go_sem, hil, lof_getD hz, hz0]
            exact ⟨by rw [InK_i64]; omega, (i + 1, 2, wtI L (Y.take i)), by simp only; omega, ⟨by simp only; omega, (fun h => (by cases h)), fun _ => hI⟩, rfl⟩
          · by_cases hzL : (L.length : Int) ≤ z
            · have hb : inB z 0 ((L.length : Int) - 1) = false := by simp [inB]; omega
              rw [hb, if_pos rfl] at hI
              simp only [go_sem, hil, lof_getD hz, hz0, hzL]
              exact ⟨by rw [InK_i64]; omega, (i + 1, 2, wtI L (Y.take i)), by simp only; omega, ⟨by simp only; omega, (fun h => (by cases h)), fun _ => hI⟩, rfl⟩
            · have hb : inB z 0 ((L.length : Int) - 1) = true := by simp [inB]; omega
              rw [hb, if_neg (by simp)] at hI
              obtain ⟨q, rfl⟩ : ∃ q : Nat, z = q := ⟨z.toNat, by omega⟩
              obtain ⟨w, hw⟩ := get_some (show q < L.length by omega)
              have hw2 : wtI L (Y.take (i + 1)) = wtI L (Y.take i) + w := by rw [take_succ_of hz, wtI_snoc, Int.toNat_natCast, List.getD_eq_getElem?_getD, hw]; rfl
              have hwlo := ok.lo w (List.mem_of_getElem? hw)
              have hwhi := ok.hi w (List.mem_of_getElem? hw)
              by_cases hi0 : i = 0
              · subst hi0
                have hle : ¬ (q : Int) ≤ lastAt Y 0 := by unfold lastAt; simp; omega
                rw [if_neg hle, ← hla] at hI
                simp only [go_sem, hil, lof_getD hz, hz0, hzL, lof_getD hw, show (0 : Int) < (Y.length : Int) by omega]
                exact ⟨by omega, by rw [InK_i64]; simp [wtI]; omega, by rw [InK_i64]; omega, (1, 0, wtI L (Y.take 1)), by simp only; omega, ⟨by simp only; omega, fun _ => ⟨hI, in_take' hin hz hb, rfl⟩, fun h => absurd rfl h⟩, by rw [hw2]; rfl⟩
              · obtain ⟨y, hy⟩ := get_some (show i - 1 < Y.length by omega)
                have hly : lastAt Y i = y := by unfold lastAt; rw [if_neg hi0, List.getD_eq_getElem?_getD, hy]; rfl
                have ei : (i : Int) - 1 = ((i - 1 : Nat) : Int) := by omega
                rw [hly] at hI
                by_cases hle : (q : Int) ≤ y
                · rw [if_pos hle] at hI
                  simp only [go_sem, hil, lof_getD hz, hz0, hzL, lof_getD hw, show (0 : Int) < (i : Int) by omega, ei, Int.toNat_natCast, lof_getD hy, hle]
                  exact ⟨by rw [InK_i64]; omega, by omega, by rw [InK_i64]; omega, (i + 1, 7, wtI L (Y.take i)), by simp only; omega, ⟨by simp only; omega, (fun h => (by cases h)), fun _ => hI⟩, rfl⟩
                · rw [if_neg hle, ← hla] at hI
                  simp only [go_sem, hil, lof_getD hz, hz0, hzL, lof_getD hw, show (0 : Int) < (i : Int) by omega, ei, Int.toNat_natCast, lof_getD hy, hle]
                  exact ⟨by rw [InK_i64]; omega, by omega, by omega, by rw [InK_i64]; omega, by rw [InK_i64]; omega, (i + 1, 0, wtI L (Y.take (i + 1))), by simp only; omega, ⟨by simp only; omega, fun _ => ⟨hI, in_take' hin hz hb, rfl⟩, fun h => absurd rfl h⟩, by rw [hw2]; rfl⟩
        · obtain rfl : i = Y.length := by omega
          rw [List.drop_length, pErr] at hI
          rw [List.take_length] at *
          by_cases hyn : (Y.length : Int) = n
          · have hynb : ((Y.length : Int) != (n : Int)) = false := by simp [hyn]
            by_cases hv : wtI L Y % n = 0
            · have hp : provesM n L Y = 0 := by rw [hprov, if_pos hyn, if_pos hI, if_pos hv]
              have hvb : (wtI L Y % (n : Int) != 0) = false := by simp [hv]
              simp only [go_sem, Nat.lt_irrefl, hvb, hynb, hp]
              exact ⟨⟨hwi.1, by omega⟩, ⟨hLz, hYz⟩, ex_le_refl rfl⟩
            · have hp : provesM n L Y = 14 := by rw [hprov, if_pos hyn, if_pos hI, if_neg hv]
              have hvb : (wtI L Y % (n : Int) != 0) = true := by simp [hv]
              simp only [go_sem, Nat.lt_irrefl, hvb, hynb, hp]
              exact ⟨⟨hwi.1, by omega⟩, ⟨hLz, hYz⟩, ex_le_refl rfl⟩
          · have hynb : ((Y.length : Int) != (n : Int)) = true := by simp [hyn]
            have hp : provesM n L Y = 5 := by rw [hprov, if_neg hyn]
            cases hvb : (wtI L Y % (n : Int) != 0) with
            | false =>
              simp only [go_sem, Nat.lt_irrefl, hvb, hynb, hp]
              exact ⟨⟨hwi.1, by omega⟩, ⟨hLz, hYz⟩, ex_le_refl rfl⟩
            | true =>
              simp only [go_sem, Nat.lt_irrefl, hvb, hynb, hp]
              exact ⟨⟨hwi.1, by omega⟩, ⟨hLz, hYz⟩, ex_le_refl rfl⟩
      · have hI := hI1 he
        have heb : (e != 0) = true := by simp [he]
        have heb2 : (e == 0) = false := by simp [he]
        have hfin : provesM n L Y = if (Y.length : Int) = n then e else 5 := by rw [hprov, hI, if_neg he]
        by_cases hyn : (Y.length : Int) = n
        · have hynb : ((Y.length : Int) != (n : Int)) = false := by simp [hyn]
          rw [if_pos hyn] at hfin
          have d1 : (e == e) = true := by simp
          by_cases hil : i < Y.length
          · obtain ⟨z, hz⟩ := get_some hil
            simp only [go_sem, hil, lof_getD hz, heb, heb2, hynb, hfin, d1]
            exact ⟨⟨hLz, hYz⟩, ex_le_refl rfl⟩
          · simp only [go_sem, hil, heb, heb2, hynb, hfin, d1]
            exact ⟨⟨hLz, hYz⟩, ex_le_refl rfl⟩
        · have hynb : ((Y.length : Int) != (n : Int)) = true := by simp [hyn]
          rw [if_neg hyn] at hfin
          by_cases hil : i < Y.length
          · obtain ⟨z, hz⟩ := get_some hil
            simp only [go_sem, hil, lof_getD hz, heb, heb2, hynb, hfin]
            exact ⟨⟨hLz, hYz⟩, ex_le_refl rfl⟩
          · simp only [go_sem, hil, heb, heb2, hynb, hfin]
            exact ⟨⟨hLz, hYz⟩, ex_le_refl rfl⟩
end Go.V
