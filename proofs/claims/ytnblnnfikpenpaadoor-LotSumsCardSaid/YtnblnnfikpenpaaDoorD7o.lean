/-
  Contracts of the law of chapter 07: the examples hold. Conditions: none.
  Contracts of the laws LotLots, LotMost, LotKinds and LotSums. Conditions: none.
-/
import Derived.Test.YtnblnnfikpenpaaDoorD7g
set_option linter.unusedVariables false
set_option linter.unusedSimpArgs false
set_option linter.deprecated false
namespace Go.V
open Go.Proofs
set_option maxRecDepth 100000
set_option maxHeartbeats 4000000

theorem f1 (a : Int) : PV.list .any 1 [.val (.int .i64 a)] = ints [a] := rfl
theorem f2 (a b : Int) : PV.list .any 1 [.val (.int .i64 a), .val (.int .i64 b)] = ints [a, b] := rfl
theorem f3 (a b c : Int) : PV.list .any 1 [.val (.int .i64 a), .val (.int .i64 b), .val (.int .i64 c)] = ints [a, b, c] := rfl
theorem f4 (a b c d : Int) : PV.list .any 1 [.val (.int .i64 a), .val (.int .i64 b), .val (.int .i64 c), .val (.int .i64 d)] = ints [a, b, c, d] := rfl
theorem f5 (a b c d e : Int) : PV.list .any 1 [.val (.int .i64 a), .val (.int .i64 b), .val (.int .i64 c), .val (.int .i64 d), .val (.int .i64 e)] = ints [a, b, c, d, e] := rfl
theorem g1 (a : List Int) : PV.list .any 1 [.list .any 1 (lof intP a)] = lists [a] := rfl
theorem g2 (a b : List Int) : PV.list .any 1 [.list .any 1 (lof intP a), .list .any 1 (lof intP b)] = lists [a, b] := rfl
theorem tab_rw {t : Tab} {args : List PV} {p : Prop} {x y : PV} (h : t args = some (p, .p x)) (hp : p) (hx : x = y) : t args = some (True, .p y) := by rw [h, hx, eq_true hp]
def firstF : Nat → List (List Int) → Nat → Option (List (List Int))
  | 0, _, _ => none
  | _ + 1, _, 0 => some []
  | _ + 1, [], _ + 1 => none
  | f + 1, l :: w, k + 1 => match firstF f (apartL w l) k with
    | some r => some (l :: r)
    | none => firstF f w (k + 1)
theorem firstF_eq : ∀ (f : Nat) (w : List (List Int)) (k : Nat), w.length < f → firstF f w k = firstL w k
  | 0, _, _, h => absurd h (Nat.not_lt_zero _)
  | f + 1, w, 0, _ => by rw [firstL_zero]; cases w <;> rfl
  | f + 1, [], k + 1, _ => by rw [firstL_nil]; rfl
  | f + 1, l :: w, k + 1, h => by
    simp only [List.length_cons] at h
    rw [firstL_cons, ← firstF_eq f (apartL w l) k (by have := List.length_filter_le (freeB l) w; unfold apartL; omega), ← firstF_eq f w (k + 1) (by omega)]
    rfl
theorem mostM_eval {n : Nat} {L : List Int} {d : Nat} {r : List (List Int)} (hc : checkS n L = 0) (hn : 1 ≤ n) (h12 : L.length ≤ 12) (hW : ((R7.whole n L n).map ofN).length < 30) (hr : firstF 30 ((R7.whole n L n).map ofN) d = some r)
    (hd : L.length / n = d ∨ L.length / n = d + 1 ∧ firstF 30 ((R7.whole n L n).map ofN) (d + 1) = none) : mostM n L = (r, 0) := by
  rw [firstF_eq _ _ _ hW] at hr
  have h := most_found (L := L) (d := d) (r := r) hn h12 (fun k h1 h2 => by
    rcases hd with hd | ⟨hd, hd2⟩
    · omega
    · obtain rfl : k = d + 1 := by omega
      rw [firstF_eq _ _ _ hW] at hd2
      exact hd2) hr
  unfold mostM
  rw [if_pos hc, Int.toNat_natCast, h]

theorem exA_spec  (hpre : True) : Ret Tryd.prog 46 [] (ints [1, 1, 2, 2]) := by
  refine fn_of (T := [ent_list7]) (N := 3) (RO := [1]) (CH := []) (KS := [0]) (NS := []) (fun args w => Tryd.call46 args w) Tryd.func46 rfl rfl (by simp) mixed (by kernel_rfl) ⟨tab_list7_ok, trivial⟩ ?_
  simp only [go_sem, ↓reduceIte, Nat.reduceLT, Nat.reduceLeDiff, Nat.reduceEqDiff, Nat.reduceAdd, Nat.reduceSub, Nat.reduceDiv, Nat.reduceMod, Nat.reduceMul, Nat.reduceBEq, Nat.reduceBNe, reduceCtorEq, Int.reduceLT, Int.reduceLE, Int.reduceEq, Int.reduceNe, Int.reduceBEq, Int.reduceBNe, Int.reduceAdd, Int.reduceSub, Int.reduceNeg, Int.reduceToNat]
  simp only [go_sem, ↓reduceIte, Nat.reduceLT, Nat.reduceLeDiff, Nat.reduceEqDiff, Nat.reduceAdd, Nat.reduceSub, Nat.reduceDiv, Nat.reduceMod, Nat.reduceMul, Nat.reduceBEq, Nat.reduceBNe, reduceCtorEq, Int.reduceLT, Int.reduceLE, Int.reduceEq, Int.reduceNe, Int.reduceBEq, Int.reduceBNe, Int.reduceAdd, Int.reduceSub, Int.reduceNeg, Int.reduceToNat, f4]
  exact ex_le_refl rfl
noncomputable def tab_exA : Tab := tabOf (fun p : (Unit) => match p with | _u => []) (fun p : (Unit) => match p with | _u => True) (fun p : (Unit) => match p with | _u => ints [1, 1, 2, 2])
theorem tab_exA_eq  : tab_exA [] = some (True, .p (ints [1, 1, 2, 2])) := tabOf_eq (enc := fun p : (Unit) => match p with | _u => []) (pre := fun p : (Unit) => match p with | _u => True) (out := fun p : (Unit) => match p with | _u => ints [1, 1, 2, 2]) (by intro a b _; rfl) ()
theorem tab_exA_ok : TabOK Tryd.prog 46 tab_exA := tabOf_ok (by rintro _ h; exact exA_spec  h)
noncomputable abbrev ent_exA : FuncId × List Nat × Tab := (46, [], tab_exA)
attribute [go_sem] tab_exA_eq
theorem exB_spec  (hpre : True) : Ret Tryd.prog 47 [] (ints [1, 1, 2, 2, 0]) := by
  refine fn_of (T := [ent_list7]) (N := 3) (RO := [1]) (CH := []) (KS := [0]) (NS := []) (fun args w => Tryd.call47 args w) Tryd.func47 rfl rfl (by simp) mixed (by kernel_rfl) ⟨tab_list7_ok, trivial⟩ ?_
  simp only [go_sem, ↓reduceIte, Nat.reduceLT, Nat.reduceLeDiff, Nat.reduceEqDiff, Nat.reduceAdd, Nat.reduceSub, Nat.reduceDiv, Nat.reduceMod, Nat.reduceMul, Nat.reduceBEq, Nat.reduceBNe, reduceCtorEq, Int.reduceLT, Int.reduceLE, Int.reduceEq, Int.reduceNe, Int.reduceBEq, Int.reduceBNe, Int.reduceAdd, Int.reduceSub, Int.reduceNeg, Int.reduceToNat]
  simp only [go_sem, ↓reduceIte, Nat.reduceLT, Nat.reduceLeDiff, Nat.reduceEqDiff, Nat.reduceAdd, Nat.reduceSub, Nat.reduceDiv, Nat.reduceMod, Nat.reduceMul, Nat.reduceBEq, Nat.reduceBNe, reduceCtorEq, Int.reduceLT, Int.reduceLE, Int.reduceEq, Int.reduceNe, Int.reduceBEq, Int.reduceBNe, Int.reduceAdd, Int.reduceSub, Int.reduceNeg, Int.reduceToNat, f5]
  exact ex_le_refl rfl
noncomputable def tab_exB : Tab := tabOf (fun p : (Unit) => match p with | _u => []) (fun p : (Unit) => match p with | _u => True) (fun p : (Unit) => match p with | _u => ints [1, 1, 2, 2, 0])
theorem tab_exB_eq  : tab_exB [] = some (True, .p (ints [1, 1, 2, 2, 0])) := tabOf_eq (enc := fun p : (Unit) => match p with | _u => []) (pre := fun p : (Unit) => match p with | _u => True) (out := fun p : (Unit) => match p with | _u => ints [1, 1, 2, 2, 0]) (by intro a b _; rfl) ()
theorem tab_exB_ok : TabOK Tryd.prog 47 tab_exB := tabOf_ok (by rintro _ h; exact exB_spec  h)
noncomputable abbrev ent_exB : FuncId × List Nat × Tab := (47, [], tab_exB)
attribute [go_sem] tab_exB_eq
theorem k7_e1 : tab_lot7 [intP 3, ints [1, 1, 2, 2, 0]] = some (True, .p (resP (([0, 2, 4] : List Int), 0))) := tab_rw (tab_lot7_eq _ _) (by decide) (by rw [show lotM 3 ([1, 1, 2, 2, 0] : List Int) = (([0, 2, 4] : List Int), 0) by decide +kernel])
theorem k7_e2 : tab_lots7 [intP 3, ints [1, 1, 2, 2, 0]] = some (True, .p (resN (4, 0))) := tab_rw (tab_lots7_eq _ _) (by decide) (by rw [show lotsM 3 ([1, 1, 2, 2, 0] : List Int) = (4, 0) by decide +kernel])
theorem k7_e3 : tab_most7 [intP 2, ints [1, 1, 0, 0, 1]] = some (True, .p (resLL ([([0, 1] : List Int), ([2, 3] : List Int)], 0))) := tab_rw (tab_most7_eq _ _) (by decide) (by rw [show mostM 2 ([1, 1, 0, 0, 1] : List Int) = ([([0, 1] : List Int), ([2, 3] : List Int)], 0) from mostM_eval (d := 2) (by decide +kernel) (by decide) (by decide) (by decide +kernel) (by decide +kernel) (by decide +kernel)])
theorem k7_e4 : tab_two7 [intP 3, ints [1, 1, 2, 2]] = some (True, .p (res3 (1, 2, 0))) := tab_rw (tab_two7_eq _ _) (by decide) (by rw [show twoM 3 ([1, 1, 2, 2] : List Int) = (1, 2, 0) by decide +kernel])
theorem k7_e5 : tab_without7 [intP 3] = some (True, .p (resP (([0, 0, 1, 1] : List Int), 0))) := tab_rw (tab_without7_eq _) trivial (by rw [show withoutM 3 = (([0, 0, 1, 1] : List Int), 0) by decide +kernel])
theorem k7_e6 : tab_some7 [intP 3, ints [1, 2, 1]] = some (True, .p (resP (([0, 1] : List Int), 0))) := tab_rw (tab_some7_eq _ _) (by decide) (by rw [show someM 3 ([1, 2, 1] : List Int) = (([0, 1] : List Int), 0) by decide +kernel])
theorem k7_e7 : tab_row7 [intP 3, ints [1, 1, 2, 2]] = some (True, .p (res3 (0, 4, 0))) := tab_rw (tab_row7_eq _ _) (by decide) (by rw [show rowM 3 ([1, 1, 2, 2] : List Int) = (0, 4, 0) by decide +kernel])
theorem k7_e8 : tab_leaves7 [intP 3, ints [1, 1, 2, 2], intP 3] = some (True, .p (resP (([1, 2] : List Int), 0))) := tab_rw (tab_leaves7_eq _ _ _) (by decide) (by rw [show leavesM 3 ([1, 1, 2, 2] : List Int) 3 = (([1, 2] : List Int), 0) by decide +kernel])
theorem k7_e9 : tab_sums7 [intP 5, ints [0, 1], ints [0, 2]] = some (True, .p (resP (([0, 1, 2, 3] : List Int), 0))) := tab_rw (tab_sums7_eq _ _ _) (by decide) (by rw [show sumsM 5 ([0, 1] : List Int) ([0, 2] : List Int) = (([0, 1, 2, 3] : List Int), 0) by decide +kernel])
theorem k7_e10 : tab_lot7 [intP 3, ints [1, 1, 2, 2]] = some (True, .p (resP (([] : List Int), 12))) := tab_rw (tab_lot7_eq _ _) (by decide) (by rw [show lotM 3 ([1, 1, 2, 2] : List Int) = (([] : List Int), 12) by decide +kernel])
theorem k7_e11 : tab_two7 [intP 3, ints [1, 2, 0, 0]] = some (True, .p (res3 (0, 0, 13))) := tab_rw (tab_two7_eq _ _) (by decide) (by rw [show twoM 3 ([1, 2, 0, 0] : List Int) = (0, 0, 13) by decide +kernel])
theorem k7_e12 : tab_some7 [intP 3, ints [1, 1]] = some (True, .p (resP (([] : List Int), 12))) := tab_rw (tab_some7_eq _ _) (by decide) (by rw [show someM 3 ([1, 1] : List Int) = (([] : List Int), 12) by decide +kernel])
theorem k7_e13 : tab_row7 [intP 3, ints [1, 1]] = some (True, .p (res3 (0, 0, 12))) := tab_rw (tab_row7_eq _ _) (by decide) (by rw [show rowM 3 ([1, 1] : List Int) = (0, 0, 12) by decide +kernel])
theorem k7_e14 : tab_proves7 [intP 3, ints [1, 1, 2, 2, 0], ints [0, 2, 4]] = some (True, .p (errP 0)) := tab_rw (tab_proves7_eq _ _ _) (by decide) (by rw [show provesM 3 ([1, 1, 2, 2, 0] : List Int) ([0, 2, 4] : List Int) = 0 by decide +kernel])
theorem k7_e15 : tab_proves7 [intP 3, ints [1, 1, 2, 2, 0], ints [0, 1, 2]] = some (True, .p (errP 14)) := tab_rw (tab_proves7_eq _ _ _) (by decide) (by rw [show provesM 3 ([1, 1, 2, 2, 0] : List Int) ([0, 1, 2] : List Int) = 14 by decide +kernel])
theorem works_spec  (hpre : True) : Ret Tryd.prog 16 [] (boolP true) := by
  refine fn_of (T := [ent_exA, ent_exB, ent_list7, ent_same7, ent_check7, ent_lot7, ent_lots7, ent_most7, ent_proves7, ent_two7, ent_without7, ent_some7, ent_row7, ent_leaves7, ent_sums7]) (N := 214) (RO := [30, 46, 89, 91, 102, 109, 115, 145, 155, 156, 157, 170, 176, 190, 196, 202, 209]) (CH := []) (KS := [0, 1, 2, 3, 4, 5, 6, 7, 8, 9, 10, 11, 12, 13, 14, 15, 16, 17, 18, 82]) (NS := []) (fun args w => Tryd.call16 args w) Tryd.func16 rfl rfl (by simp) mixed (by kernel_rfl) ⟨tab_exA_ok, tab_exB_ok, tab_list7_ok, tab_same7_ok, tab_check7_ok, tab_lot7_ok, tab_lots7_ok, tab_most7_ok, tab_proves7_ok, tab_two7_ok, tab_without7_ok, tab_some7_ok, tab_row7_ok, tab_leaves7_ok, tab_sums7_ok, trivial⟩ ?_
  have d1 : ∀ l : List Int, decide (l = l) = true := fun l => by simp
  have d2 : ∀ l : List (List Int), decide (l = l) = true := fun l => by simp
  have z3 : sz 3 := by unfold sz; omega
  have z2 : sz 2 := by unfold sz; omega
  have z4 : sz 4 := by unfold sz; omega
  have hl : (sz ([[0, 1], [2, 3]] : List (List Int)).length ∧ sz ([[0, 1], [2, 3]] : List (List Int)).length) ∧ (∀ x ∈ ([[0, 1], [2, 3]] : List (List Int)), sz x.length) ∧ ∀ x ∈ ([[0, 1], [2, 3]] : List (List Int)), sz x.length := by decide
  simp (maxSteps := 4000000) only [go_sem, ↓reduceIte, Nat.reduceLT, Nat.reduceLeDiff, Nat.reduceEqDiff, Nat.reduceAdd, Nat.reduceSub, Nat.reduceDiv, Nat.reduceMod, Nat.reduceMul, Nat.reduceBEq, Nat.reduceBNe, reduceCtorEq, Int.reduceLT, Int.reduceLE, Int.reduceEq, Int.reduceNe, Int.reduceBEq, Int.reduceBNe, Int.reduceAdd, Int.reduceSub, Int.reduceNeg, Int.reduceToNat, f1, f2, f3, f4, f5, g1, g2, d1, d2, k7_e1, k7_e2, k7_e3, k7_e4, k7_e5, k7_e6, k7_e7, k7_e8, k7_e9, k7_e10, k7_e11, k7_e12, k7_e13, k7_e14, k7_e15]
  (repeat with_reducible refine And.intro (by (repeat' with_reducible refine And.intro ?_ ?_) <;> first | with_reducible assumption | omega | (simp only [InK_i64, InK_u64, InK_u8]; omega) | (unfold sz; omega) | exact True.intro) ?_)
  refine vret_pure (lists7_spec [[0, 1], [2, 3]] [[0, 1], [2, 3]] hl) rfl (LeL.cons (Le.refl _) (LeL.cons (Le.list (LeL.cons Le.tight (LeL.cons Le.tight LeL.nil))) LeL.nil)) (by decide) ?_
  simp (maxSteps := 4000000) only [go_sem, ↓reduceIte, Nat.reduceLT, Nat.reduceLeDiff, Nat.reduceEqDiff, Nat.reduceAdd, Nat.reduceSub, Nat.reduceDiv, Nat.reduceMod, Nat.reduceMul, Nat.reduceBEq, Nat.reduceBNe, reduceCtorEq, Int.reduceLT, Int.reduceLE, Int.reduceEq, Int.reduceNe, Int.reduceBEq, Int.reduceBNe, Int.reduceAdd, Int.reduceSub, Int.reduceNeg, Int.reduceToNat, f1, f2, f3, f4, f5, g1, g2, d1, d2, k7_e1, k7_e2, k7_e3, k7_e4, k7_e5, k7_e6, k7_e7, k7_e8, k7_e9, k7_e10, k7_e11, k7_e12, k7_e13, k7_e14, k7_e15]
  (repeat with_reducible refine And.intro (by (repeat' with_reducible refine And.intro ?_ ?_) <;> first | with_reducible assumption | omega | (simp only [InK_i64, InK_u64, InK_u8]; omega) | (unfold sz; omega) | exact True.intro) ?_)
  exact ex_le_refl rfl
noncomputable def tab_works : Tab := tabOf (fun p : (Unit) => match p with | _u => []) (fun p : (Unit) => match p with | _u => True) (fun p : (Unit) => match p with | _u => boolP true)
theorem tab_works_eq  : tab_works [] = some (True, .p (boolP true)) := tabOf_eq (enc := fun p : (Unit) => match p with | _u => []) (pre := fun p : (Unit) => match p with | _u => True) (out := fun p : (Unit) => match p with | _u => boolP true) (by intro a b _; rfl) ()
theorem tab_works_ok : TabOK Tryd.prog 16 tab_works := tabOf_ok (by rintro _ h; exact works_spec  h)
noncomputable abbrev ent_works : FuncId × List Nat × Tab := (16, [], tab_works)
attribute [go_sem] tab_works_eq
end Go.V

namespace Go.V
open Go.Proofs
set_option maxRecDepth 100000
set_option maxHeartbeats 4000000

theorem lotM_len (n : Int) (L : List Int) : (lotM n L).1.length ≤ 12 := by
  unfold lotM
  split
  · next hc =>
    split
    · simp
    · next l r h =>
      have h12 := (checkS_zero.1 hc).2.1
      have hl : l ∈ R7.whole n.toNat L n.toNat := by rw [h]; simp
      obtain ⟨_, h2, h3⟩ := R7.whole_mem12 h12 hl
      have := (checkS_zero.1 hc).1
      show (ofN l).length ≤ 12
      rw [ofN_length]; omega
  · simp
theorem someM_len (n : Int) (L : List Int) : (someM n L).1.length ≤ 12 := by
  unfold someM
  split
  · next hc =>
    have h12 := (checkS_zero.1 hc).2.1
    rw [R7.best_some h12]
    split
    · simp
    · next l h =>
      split at h
      · cases h
      · cases h
        show (ofN _).length ≤ 12
        rw [ofN_length]; exact ones_len _
  · simp
theorem withoutM_len (n : Int) : (withoutM n).1.length ≤ 12 := by
  unfold withoutM
  split
  · next h => simp [inB] at h; simp; omega
  · simp
theorem toldL_len (n : Nat) (ls : List (List Int)) : (ofN (toldL n ls)).length ≤ n := by rw [ofN_length]; unfold toldL; exact Nat.le_trans (List.length_filter_le _ _) (by simp)
theorem sumsM_len (n : Int) (a b : List Int) : (sumsM n a b).1.length ≤ 12 := by
  unfold sumsM
  by_cases hin : inB n 1 6 = true
  · rw [if_pos hin]
    split
    · have h1 := toldL_len n.toNat [a, b]
      have h2 : n.toNat ≤ 12 := by simp [inB] at hin; omega
      exact Nat.le_trans h1 h2
    · simp
  · rw [if_neg hin, if_neg (by decide)]; simp
theorem leavesM_len (n : Int) (L : List Int) (k : Int) : (leavesM n L k).1.length ≤ 12 := by
  unfold leavesM
  split
  · next h =>
    have := (checkS_zero.1 h).1
    split
    · show (ofN _).length ≤ 12
      rw [ofN_length]
      unfold R7.leavesL
      exact Nat.le_trans (List.length_filter_le _ _) (by simp; omega)
    · simp
  · simp
theorem greedy_sub (mx : Nat → Nat) : ∀ (w : List Nat) (s : Nat), (R7.greedy mx w s).length ≤ w.length ∧ ∀ x ∈ R7.greedy mx w s, x ∈ w
  | [], _ => by simp [R7.greedy]
  | l :: w, s => by
    rw [R7.greedy]
    split
    · have := greedy_sub mx w (R7.dif s l)
      exact ⟨by simp; omega, fun x hx => by
        rcases List.mem_cons.1 hx with h | h
        · simp [h]
        · simp [this.2 x h]⟩
    · have := greedy_sub mx w s
      exact ⟨by simp; omega, fun x hx => by simp [this.2 x hx]⟩
theorem mostM_sz (n : Int) (L : List Int) : sz (mostM n L).1.length ∧ ∀ x ∈ (mostM n L).1, sz x.length := by
  unfold mostM
  split
  · next hc =>
    have h12 := (checkS_zero.1 hc).2.1
    obtain ⟨h1, h2⟩ := greedy_sub (R7.mx (R7.wset n.toNat L n.toNat)) (R7.wset n.toNat L n.toNat) (2 ^ L.length - 1)
    have h3 := R7.wset_size (n := n.toNat) (k := n.toNat) h12
    have h4 := R7.pow12 h12
    refine ⟨by unfold sz; show ((mostL n.toNat L).map _).length ≤ _; rw [List.length_map]; unfold mostL; omega, fun x hx => ?_⟩
    obtain ⟨s, _, rfl⟩ := List.mem_map.1 hx
    have := ones_len s
    unfold sz; rw [ofN_length]; omega
  · exact ⟨by unfold sz; simp, by simp⟩

theorem LotLots_spec (n : Int) (L : List Int) (l : List Int) (hpre : True) : Ret Tryd.prog 3 [intP n, ints L, ints l] (boolP true) := by
  refine fn_of (T := [ent_works, ent_lot7, ent_rLot, ent_lots7, ent_rLots, ent_check7, ent_check7r, ent_proves7, ent_rProves, ent_same7]) (N := 89) (RO := []) (CH := []) (KS := [0, 1, 2, 6, 7, 8, 9, 10, 11, 12, 13, 14, 22]) (NS := []) (fun args w => Tryd.call3 args w) Tryd.func3 rfl rfl (by simp) mixed (by kernel_rfl) ⟨tab_works_ok, tab_lot7_ok, tab_rLot_ok, tab_lots7_ok, tab_rLots_ok, tab_check7_ok, tab_check7r_ok, tab_proves7_ok, tab_rProves_ok, tab_same7_ok, trivial⟩ ?_
  simp only [go_sem, ↓reduceIte, Nat.reduceLT, Nat.reduceLeDiff, Nat.reduceEqDiff, Nat.reduceAdd, Nat.reduceSub, Nat.reduceDiv, Nat.reduceMod, Nat.reduceMul, Nat.reduceBEq, Nat.reduceBNe, reduceCtorEq, Int.reduceLT, Int.reduceLE, Int.reduceEq, Int.reduceNe, Int.reduceBEq, Int.reduceBNe, Int.reduceAdd, Int.reduceSub, Int.reduceNeg, Int.reduceToNat]
  by_cases hg : (60 : Int) < L.length
  · simp only [go_sem, ↓reduceIte, Nat.reduceLT, Nat.reduceLeDiff, Nat.reduceEqDiff, Nat.reduceAdd, Nat.reduceSub, Nat.reduceDiv, Nat.reduceMod, Nat.reduceMul, Nat.reduceBEq, Nat.reduceBNe, reduceCtorEq, Int.reduceLT, Int.reduceLE, Int.reduceEq, Int.reduceNe, Int.reduceBEq, Int.reduceBNe, Int.reduceAdd, Int.reduceSub, Int.reduceNeg, Int.reduceToNat, hg]
    exact ex_le_refl rfl
  · by_cases hg2 : (60 : Int) < l.length
    · simp only [go_sem, ↓reduceIte, Nat.reduceLT, Nat.reduceLeDiff, Nat.reduceEqDiff, Nat.reduceAdd, Nat.reduceSub, Nat.reduceDiv, Nat.reduceMod, Nat.reduceMul, Nat.reduceBEq, Nat.reduceBNe, reduceCtorEq, Int.reduceLT, Int.reduceLE, Int.reduceEq, Int.reduceNe, Int.reduceBEq, Int.reduceBNe, Int.reduceAdd, Int.reduceSub, Int.reduceNeg, Int.reduceToNat, hg, hg2]
      exact ex_le_refl rfl
    · have h1 := lotM_len n L
      have d1 : decide ((lotM n L).1 = (lotM n L).1) = true := by simp
      have hz : sz L.length := by unfold sz; omega
      have hz2 : sz l.length := by unfold sz; omega
      have hb : sz (lotM n L).1.length := by unfold sz; omega
      simp only [go_sem, ↓reduceIte, Nat.reduceLT, Nat.reduceLeDiff, Nat.reduceEqDiff, Nat.reduceAdd, Nat.reduceSub, Nat.reduceDiv, Nat.reduceMod, Nat.reduceMul, Nat.reduceBEq, Nat.reduceBNe, reduceCtorEq, Int.reduceLT, Int.reduceLE, Int.reduceEq, Int.reduceNe, Int.reduceBEq, Int.reduceBNe, Int.reduceAdd, Int.reduceSub, Int.reduceNeg, Int.reduceToNat, hg, hg2, d1]
      (repeat with_reducible refine And.intro (by (repeat' with_reducible refine And.intro ?_ ?_) <;> first | with_reducible assumption | omega | (simp only [InK_i64, InK_u64, InK_u8]; omega) | (unfold sz; omega) | exact True.intro) ?_)
      exact ex_le_refl rfl
noncomputable def tab_LotLots : Tab := tabOf (fun p : (Int) × (List Int) × (List Int) => match p with | (n, L, l) => [intP n, ints L, ints l]) (fun p : (Int) × (List Int) × (List Int) => match p with | (n, L, l) => True) (fun p : (Int) × (List Int) × (List Int) => match p with | (n, L, l) => boolP true)
theorem tab_LotLots_eq (n : Int) (L : List Int) (l : List Int) : tab_LotLots [intP n, ints L, ints l] = some (True, .p (boolP true)) := tabOf_eq (enc := fun p : (Int) × (List Int) × (List Int) => match p with | (n, L, l) => [intP n, ints L, ints l]) (pre := fun p : (Int) × (List Int) × (List Int) => match p with | (n, L, l) => True) (out := fun p : (Int) × (List Int) × (List Int) => match p with | (n, L, l) => boolP true) (by rintro ⟨n, L, l⟩ ⟨n', L', l'⟩ h; simp at h; first | (simp [h]; done) | omega | (simp [h]; omega)) (n, L, l)
theorem tab_LotLots_ok : TabOK Tryd.prog 3 tab_LotLots := tabOf_ok (by rintro ⟨n, L, l⟩ h; exact LotLots_spec n L l h)
noncomputable abbrev ent_LotLots : FuncId × List Nat × Tab := (3, [0, 1, 1], tab_LotLots)
attribute [go_sem] tab_LotLots_eq
theorem LotMost_spec (n : Int) (L : List Int) (hpre : True) : Ret Tryd.prog 4 [intP n, ints L] (boolP true) := by
  refine fn_of (T := [ent_works, ent_most7, ent_rMost, ent_lists7]) (N := 46) (RO := []) (CH := []) (KS := [0, 1, 4, 5, 6, 7, 8, 21]) (NS := []) (fun args w => Tryd.call4 args w) Tryd.func4 rfl rfl (by simp) mixed (by kernel_rfl) ⟨tab_works_ok, tab_most7_ok, tab_rMost_ok, tab_lists7_ok, trivial⟩ ?_
  simp only [go_sem, ↓reduceIte, Nat.reduceLT, Nat.reduceLeDiff, Nat.reduceEqDiff, Nat.reduceAdd, Nat.reduceSub, Nat.reduceDiv, Nat.reduceMod, Nat.reduceMul, Nat.reduceBEq, Nat.reduceBNe, reduceCtorEq, Int.reduceLT, Int.reduceLE, Int.reduceEq, Int.reduceNe, Int.reduceBEq, Int.reduceBNe, Int.reduceAdd, Int.reduceSub, Int.reduceNeg, Int.reduceToNat]
  by_cases hg : (60 : Int) < L.length
  · simp only [go_sem, ↓reduceIte, Nat.reduceLT, Nat.reduceLeDiff, Nat.reduceEqDiff, Nat.reduceAdd, Nat.reduceSub, Nat.reduceDiv, Nat.reduceMod, Nat.reduceMul, Nat.reduceBEq, Nat.reduceBNe, reduceCtorEq, Int.reduceLT, Int.reduceLE, Int.reduceEq, Int.reduceNe, Int.reduceBEq, Int.reduceBNe, Int.reduceAdd, Int.reduceSub, Int.reduceNeg, Int.reduceToNat, hg]
    exact ex_le_refl rfl
  · by_cases hg2 : (9 : Int) < L.length
    · by_cases hg3 : (L.length : Int) ≤ 12
      · simp only [go_sem, ↓reduceIte, Nat.reduceLT, Nat.reduceLeDiff, Nat.reduceEqDiff, Nat.reduceAdd, Nat.reduceSub, Nat.reduceDiv, Nat.reduceMod, Nat.reduceMul, Nat.reduceBEq, Nat.reduceBNe, reduceCtorEq, Int.reduceLT, Int.reduceLE, Int.reduceEq, Int.reduceNe, Int.reduceBEq, Int.reduceBNe, Int.reduceAdd, Int.reduceSub, Int.reduceNeg, Int.reduceToNat, hg, hg2, hg3]
        exact ex_le_refl rfl
      · have d1 : decide ((mostM n L).1 = (mostM n L).1) = true := by simp
        have hz : sz L.length := by unfold sz; omega
        have hb := mostM_sz n L
        simp only [go_sem, ↓reduceIte, Nat.reduceLT, Nat.reduceLeDiff, Nat.reduceEqDiff, Nat.reduceAdd, Nat.reduceSub, Nat.reduceDiv, Nat.reduceMod, Nat.reduceMul, Nat.reduceBEq, Nat.reduceBNe, reduceCtorEq, Int.reduceLT, Int.reduceLE, Int.reduceEq, Int.reduceNe, Int.reduceBEq, Int.reduceBNe, Int.reduceAdd, Int.reduceSub, Int.reduceNeg, Int.reduceToNat, hg, hg2, hg3, d1]
        exact ⟨hz, hz, ⟨⟨hb.1, hb.1⟩, hb.2, hb.2⟩, ex_le_refl rfl⟩
    · have hg3 : True := trivial
      have d1 : decide ((mostM n L).1 = (mostM n L).1) = true := by simp
      have hz : sz L.length := by unfold sz; omega
      have hb := mostM_sz n L
      simp only [go_sem, ↓reduceIte, Nat.reduceLT, Nat.reduceLeDiff, Nat.reduceEqDiff, Nat.reduceAdd, Nat.reduceSub, Nat.reduceDiv, Nat.reduceMod, Nat.reduceMul, Nat.reduceBEq, Nat.reduceBNe, reduceCtorEq, Int.reduceLT, Int.reduceLE, Int.reduceEq, Int.reduceNe, Int.reduceBEq, Int.reduceBNe, Int.reduceAdd, Int.reduceSub, Int.reduceNeg, Int.reduceToNat, hg, hg2, hg3, d1]
      exact ⟨hz, hz, ⟨⟨hb.1, hb.1⟩, hb.2, hb.2⟩, ex_le_refl rfl⟩
noncomputable def tab_LotMost : Tab := tabOf (fun p : (Int) × (List Int) => match p with | (n, L) => [intP n, ints L]) (fun p : (Int) × (List Int) => match p with | (n, L) => True) (fun p : (Int) × (List Int) => match p with | (n, L) => boolP true)
theorem tab_LotMost_eq (n : Int) (L : List Int) : tab_LotMost [intP n, ints L] = some (True, .p (boolP true)) := tabOf_eq (enc := fun p : (Int) × (List Int) => match p with | (n, L) => [intP n, ints L]) (pre := fun p : (Int) × (List Int) => match p with | (n, L) => True) (out := fun p : (Int) × (List Int) => match p with | (n, L) => boolP true) (by rintro ⟨n, L⟩ ⟨n', L'⟩ h; simp at h; first | (simp [h]; done) | omega | (simp [h]; omega)) (n, L)
theorem tab_LotMost_ok : TabOK Tryd.prog 4 tab_LotMost := tabOf_ok (by rintro ⟨n, L⟩ h; exact LotMost_spec n L h)
noncomputable abbrev ent_LotMost : FuncId × List Nat × Tab := (4, [0, 1], tab_LotMost)
attribute [go_sem] tab_LotMost_eq
theorem LotKinds_spec (n : Int) (L : List Int) (hpre : True) : Ret Tryd.prog 5 [intP n, ints L] (boolP true) := by
  refine fn_of (T := [ent_works, ent_two7, ent_rTwo, ent_without7, ent_rWithout, ent_some7, ent_rSome, ent_row7, ent_rRow, ent_same7]) (N := 119) (RO := []) (CH := []) (KS := [0, 1, 4, 5, 6, 7, 8, 9, 10, 11, 12, 13, 14, 17, 66]) (NS := []) (fun args w => Tryd.call5 args w) Tryd.func5 rfl rfl (by simp) mixed (by kernel_rfl) ⟨tab_works_ok, tab_two7_ok, tab_rTwo_ok, tab_without7_ok, tab_rWithout_ok, tab_some7_ok, tab_rSome_ok, tab_row7_ok, tab_rRow_ok, tab_same7_ok, trivial⟩ ?_
  simp only [go_sem, ↓reduceIte, Nat.reduceLT, Nat.reduceLeDiff, Nat.reduceEqDiff, Nat.reduceAdd, Nat.reduceSub, Nat.reduceDiv, Nat.reduceMod, Nat.reduceMul, Nat.reduceBEq, Nat.reduceBNe, reduceCtorEq, Int.reduceLT, Int.reduceLE, Int.reduceEq, Int.reduceNe, Int.reduceBEq, Int.reduceBNe, Int.reduceAdd, Int.reduceSub, Int.reduceNeg, Int.reduceToNat]
  by_cases hg : (60 : Int) < L.length
  · simp only [go_sem, ↓reduceIte, Nat.reduceLT, Nat.reduceLeDiff, Nat.reduceEqDiff, Nat.reduceAdd, Nat.reduceSub, Nat.reduceDiv, Nat.reduceMod, Nat.reduceMul, Nat.reduceBEq, Nat.reduceBNe, reduceCtorEq, Int.reduceLT, Int.reduceLE, Int.reduceEq, Int.reduceNe, Int.reduceBEq, Int.reduceBNe, Int.reduceAdd, Int.reduceSub, Int.reduceNeg, Int.reduceToNat, hg]
    exact ex_le_refl rfl
  · have h1 := withoutM_len n
    have h2 := someM_len n L
    have d1 : decide ((withoutM n).1 = (withoutM n).1) = true := by simp
    have d2 : decide ((someM n L).1 = (someM n L).1) = true := by simp
    have hz : sz L.length := by unfold sz; omega
    have hb : sz (withoutM n).1.length := by unfold sz; omega
    have hb2 : sz (someM n L).1.length := by unfold sz; omega
    simp only [go_sem, ↓reduceIte, Nat.reduceLT, Nat.reduceLeDiff, Nat.reduceEqDiff, Nat.reduceAdd, Nat.reduceSub, Nat.reduceDiv, Nat.reduceMod, Nat.reduceMul, Nat.reduceBEq, Nat.reduceBNe, reduceCtorEq, Int.reduceLT, Int.reduceLE, Int.reduceEq, Int.reduceNe, Int.reduceBEq, Int.reduceBNe, Int.reduceAdd, Int.reduceSub, Int.reduceNeg, Int.reduceToNat, hg, d1, d2]
    (repeat with_reducible refine And.intro (by (repeat' with_reducible refine And.intro ?_ ?_) <;> first | with_reducible assumption | omega | (simp only [InK_i64, InK_u64, InK_u8]; omega) | (unfold sz; omega) | exact True.intro) ?_)
    exact ex_le_refl rfl
noncomputable def tab_LotKinds : Tab := tabOf (fun p : (Int) × (List Int) => match p with | (n, L) => [intP n, ints L]) (fun p : (Int) × (List Int) => match p with | (n, L) => True) (fun p : (Int) × (List Int) => match p with | (n, L) => boolP true)
theorem tab_LotKinds_eq (n : Int) (L : List Int) : tab_LotKinds [intP n, ints L] = some (True, .p (boolP true)) := tabOf_eq (enc := fun p : (Int) × (List Int) => match p with | (n, L) => [intP n, ints L]) (pre := fun p : (Int) × (List Int) => match p with | (n, L) => True) (out := fun p : (Int) × (List Int) => match p with | (n, L) => boolP true) (by rintro ⟨n, L⟩ ⟨n', L'⟩ h; simp at h; first | (simp [h]; done) | omega | (simp [h]; omega)) (n, L)
theorem tab_LotKinds_ok : TabOK Tryd.prog 5 tab_LotKinds := tabOf_ok (by rintro ⟨n, L⟩ h; exact LotKinds_spec n L h)
noncomputable abbrev ent_LotKinds : FuncId × List Nat × Tab := (5, [0, 1], tab_LotKinds)
attribute [go_sem] tab_LotKinds_eq
theorem LotSums_spec (n : Int) (a : List Int) (b : List Int) (k : Int) (hpre : True) : Ret Tryd.prog 6 [intP n, ints a, ints b, intP k] (boolP true) := by
  refine fn_of (T := [ent_works, ent_leaves7, ent_rLeaves, ent_sums7, ent_rSums, ent_same7]) (N := 75) (RO := []) (CH := []) (KS := [0, 1, 2, 3, 8, 9, 10, 11, 12, 13, 14, 15, 16, 24]) (NS := []) (fun args w => Tryd.call6 args w) Tryd.func6 rfl rfl (by simp) mixed (by kernel_rfl) ⟨tab_works_ok, tab_leaves7_ok, tab_rLeaves_ok, tab_sums7_ok, tab_rSums_ok, tab_same7_ok, trivial⟩ ?_
  simp only [go_sem, ↓reduceIte, Nat.reduceLT, Nat.reduceLeDiff, Nat.reduceEqDiff, Nat.reduceAdd, Nat.reduceSub, Nat.reduceDiv, Nat.reduceMod, Nat.reduceMul, Nat.reduceBEq, Nat.reduceBNe, reduceCtorEq, Int.reduceLT, Int.reduceLE, Int.reduceEq, Int.reduceNe, Int.reduceBEq, Int.reduceBNe, Int.reduceAdd, Int.reduceSub, Int.reduceNeg, Int.reduceToNat]
  by_cases hg : (60 : Int) < a.length
  · simp only [go_sem, ↓reduceIte, Nat.reduceLT, Nat.reduceLeDiff, Nat.reduceEqDiff, Nat.reduceAdd, Nat.reduceSub, Nat.reduceDiv, Nat.reduceMod, Nat.reduceMul, Nat.reduceBEq, Nat.reduceBNe, reduceCtorEq, Int.reduceLT, Int.reduceLE, Int.reduceEq, Int.reduceNe, Int.reduceBEq, Int.reduceBNe, Int.reduceAdd, Int.reduceSub, Int.reduceNeg, Int.reduceToNat, hg]
    exact ex_le_refl rfl
  · by_cases hg2 : (60 : Int) < b.length
    · simp only [go_sem, ↓reduceIte, Nat.reduceLT, Nat.reduceLeDiff, Nat.reduceEqDiff, Nat.reduceAdd, Nat.reduceSub, Nat.reduceDiv, Nat.reduceMod, Nat.reduceMul, Nat.reduceBEq, Nat.reduceBNe, reduceCtorEq, Int.reduceLT, Int.reduceLE, Int.reduceEq, Int.reduceNe, Int.reduceBEq, Int.reduceBNe, Int.reduceAdd, Int.reduceSub, Int.reduceNeg, Int.reduceToNat, hg, hg2]
      exact ex_le_refl rfl
    · have h1 := leavesM_len n a k
      have h2 := sumsM_len n a b
      have d1 : decide ((leavesM n a k).1 = (leavesM n a k).1) = true := by simp
      have d2 : decide ((sumsM n a b).1 = (sumsM n a b).1) = true := by simp
      have hz : sz a.length := by unfold sz; omega
      have hz2 : sz b.length := by unfold sz; omega
      have hb : sz (leavesM n a k).1.length := by unfold sz; omega
      have hb2 : sz (sumsM n a b).1.length := by unfold sz; omega
      simp only [go_sem, ↓reduceIte, Nat.reduceLT, Nat.reduceLeDiff, Nat.reduceEqDiff, Nat.reduceAdd, Nat.reduceSub, Nat.reduceDiv, Nat.reduceMod, Nat.reduceMul, Nat.reduceBEq, Nat.reduceBNe, reduceCtorEq, Int.reduceLT, Int.reduceLE, Int.reduceEq, Int.reduceNe, Int.reduceBEq, Int.reduceBNe, Int.reduceAdd, Int.reduceSub, Int.reduceNeg, Int.reduceToNat, hg, hg2, d1, d2]
      (repeat with_reducible refine And.intro (by (repeat' with_reducible refine And.intro ?_ ?_) <;> first | with_reducible assumption | omega | (simp only [InK_i64, InK_u64, InK_u8]; omega) | (unfold sz; omega) | exact True.intro) ?_)
      exact ex_le_refl rfl
noncomputable def tab_LotSums : Tab := tabOf (fun p : (Int) × (List Int) × (List Int) × (Int) => match p with | (n, a, b, k) => [intP n, ints a, ints b, intP k]) (fun p : (Int) × (List Int) × (List Int) × (Int) => match p with | (n, a, b, k) => True) (fun p : (Int) × (List Int) × (List Int) × (Int) => match p with | (n, a, b, k) => boolP true)
theorem tab_LotSums_eq (n : Int) (a : List Int) (b : List Int) (k : Int) : tab_LotSums [intP n, ints a, ints b, intP k] = some (True, .p (boolP true)) := tabOf_eq (enc := fun p : (Int) × (List Int) × (List Int) × (Int) => match p with | (n, a, b, k) => [intP n, ints a, ints b, intP k]) (pre := fun p : (Int) × (List Int) × (List Int) × (Int) => match p with | (n, a, b, k) => True) (out := fun p : (Int) × (List Int) × (List Int) × (Int) => match p with | (n, a, b, k) => boolP true) (by rintro ⟨n, a, b, k⟩ ⟨n', a', b', k'⟩ h; simp at h; first | (simp [h]; done) | omega | (simp [h]; omega)) (n, a, b, k)
theorem tab_LotSums_ok : TabOK Tryd.prog 6 tab_LotSums := tabOf_ok (by rintro ⟨n, a, b, k⟩ h; exact LotSums_spec n a b k h)
noncomputable abbrev ent_LotSums : FuncId × List Nat × Tab := (6, [0, 1, 1, 0], tab_LotSums)
attribute [go_sem] tab_LotSums_eq
end Go.V
