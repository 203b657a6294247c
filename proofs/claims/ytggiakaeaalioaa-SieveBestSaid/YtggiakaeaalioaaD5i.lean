/-
  Contracts of the program of chapter 05: the sieves that lead to a kind. Conditions: none.
  Contracts of the program of chapter 05: questions. Conditions: none.
  Contracts of chapter 05: lists, one behind the other. Conditions: none.
-/
import Derived.Test.YtggiakaeaalioaaD5f
import Derived.Test.YtggiakaeaalioaaA5
import Derived.Test.YtggiakaeaalioaaVTab
set_option linter.unusedVariables false
set_option linter.unusedSimpArgs false
set_option linter.deprecated false
namespace Go.V
open Go.Proofs
set_option maxRecDepth 10000
set_option maxHeartbeats 2000000

theorem cloneL_spec (l : List Int) (hpre : sz l.length) : Ret Try.prog 54 [ints l] (ints l) := by
  refine fn_of (T := []) (N := 8) (RO := []) (CH := []) (KS := [0, 2, 4]) (NS := [2, 5, 7]) (fun args w => Try.call54 args w) Try.func54 rfl rfl (by simp) mixed (by kernel_rfl) trivial ?_
  simp only [go_sem, ↓reduceIte, Nat.reduceLT, Nat.reduceLeDiff, Nat.reduceEqDiff, Nat.reduceAdd, Nat.reduceSub, Nat.reduceDiv, Nat.reduceMod, Nat.reduceMul, Nat.reduceBEq, Nat.reduceBNe, reduceCtorEq, Int.reduceLT, Int.reduceLE, Int.reduceEq, Int.reduceNe, Int.reduceBEq, Int.reduceBNe, Int.reduceAdd, Int.reduceSub, Int.reduceNeg, Int.reduceToNat]
  intro t ht
  cases t with
  | true =>
    have : l = [] := Classical.not_not.1 fun h => by have := ht (by simpa [lof] using h); cases this
    subst this
    simp only [go_sem, ↓reduceIte, Nat.reduceLT, Nat.reduceLeDiff, Nat.reduceEqDiff, Nat.reduceAdd, Nat.reduceSub, Nat.reduceDiv, Nat.reduceMod, Nat.reduceMul, Nat.reduceBEq, Nat.reduceBNe, reduceCtorEq, Int.reduceLT, Int.reduceLE, Int.reduceEq, Int.reduceNe, Int.reduceBEq, Int.reduceBNe, Int.reduceAdd, Int.reduceSub, Int.reduceNeg, Int.reduceToNat]
    exact ex_le (Le.nilS _ _)
  | false =>
    simp only [go_sem, ↓reduceIte, Nat.reduceLT, Nat.reduceLeDiff, Nat.reduceEqDiff, Nat.reduceAdd, Nat.reduceSub, Nat.reduceDiv, Nat.reduceMod, Nat.reduceMul, Nat.reduceBEq, Nat.reduceBNe, reduceCtorEq, Int.reduceLT, Int.reduceLE, Int.reduceEq, Int.reduceNe, Int.reduceBEq, Int.reduceBNe, Int.reduceAdd, Int.reduceSub, Int.reduceNeg, Int.reduceToNat]
    exact ⟨Nat.le_trans hpre (by decide), ex_le_refl rfl⟩
noncomputable def tab_cloneL : Tab := tabOf (fun l : List Int => [ints l]) (fun l => sz l.length) (fun l => ints l)
theorem tab_cloneL_eq (l : List Int) : tab_cloneL [ints l] = some (sz l.length, .p (ints l)) := tabOf_eq (enc := fun l : List Int => [ints l]) (pre := fun l => sz l.length) (out := fun l => ints l) (by intro a b h; simpa using h) l
theorem tab_cloneL_ok : TabOK Try.prog 54 tab_cloneL := tabOf_ok (fun l h => cloneL_spec l h)
noncomputable abbrev ent_cloneL : FuncId × List Nat × Tab := (54, [1], tab_cloneL)
attribute [go_sem] tab_cloneL_eq

/-- what is kept of the sieves of the kinds of a tree -/
def outA (t : R5.T) (a kind : Nat) (sv : List Int) (v : PV) : PV := if a ≤ kind ∧ kind < a + t.kinds then ints (sv ++ t.path a kind) else v
abbrev HO (v : PV) : List (Nat × Ob) := [(5000000, .cells 22 [.p v])]
theorem tellA_spec (kind a : Nat) (sv : List Int) (v : PV) (hv : v.one = true) (hs : sv.length ≤ 65536) : FnO Try.prog 79 [.p (natP a), .p (ints sv), .p (.ref [intP kind] 0), .ptr 5000000 0] (HO v) (fun x H => x = .p (.tuple []) ∧ H = HO (outA .leaf a kind sv v)) := by
  refine fnO_of (T := [ent_cloneL]) [5000000] [] (N := 11) (RO := []) (CH := []) (KS := [0, 1, 2, 3, 8]) (NS := [10, 5000000]) (fun args w => Try.call79 args w) Try.func79 rfl rfl (by simp) mixed (by kernel_rfl) ⟨tab_cloneL_ok, trivial⟩ ?_
  by_cases h : a = kind
  · have e : ((a : Int) == (kind : Int)) = true := by simp [h]
    have eo : outA .leaf a kind sv v = ints sv := by unfold outA; rw [if_pos (by simp only [R5.T.kinds]; omega)]; simp [R5.T.path]
    rw [eo]
    simp only [go_sem, ↓reduceIte, Nat.reduceLT, Nat.reduceLeDiff, Nat.reduceEqDiff, Nat.reduceAdd, Nat.reduceSub, Nat.reduceDiv, Nat.reduceMod, Nat.reduceMul, Nat.reduceBEq, Nat.reduceBNe, reduceCtorEq, Int.reduceLT, Int.reduceLE, Int.reduceEq, Int.reduceNe, Int.reduceBEq, Int.reduceBNe, Int.reduceAdd, Int.reduceSub, Int.reduceNeg, Int.reduceToNat, false_and, e]
    refine ⟨by unfold sz; omega, _, Le.refl _, ?_⟩
    first | rfl | exact ⟨rfl, rfl⟩
  · have e : ((a : Int) == (kind : Int)) = false := by rw [beq_eq_false_iff_ne]; omega
    have eo : outA .leaf a kind sv v = v := by unfold outA; rw [if_neg (by simp only [R5.T.kinds]; omega)]
    rw [eo]
    simp only [go_sem, ↓reduceIte, Nat.reduceLT, Nat.reduceLeDiff, Nat.reduceEqDiff, Nat.reduceAdd, Nat.reduceSub, Nat.reduceDiv, Nat.reduceMod, Nat.reduceMul, Nat.reduceBEq, Nat.reduceBNe, reduceCtorEq, Int.reduceLT, Int.reduceLE, Int.reduceEq, Int.reduceNe, Int.reduceBEq, Int.reduceBNe, Int.reduceAdd, Int.reduceSub, Int.reduceNeg, Int.reduceToNat, e]
    refine ⟨_, Le.refl _, ?_⟩
    first | rfl | exact ⟨rfl, rfl⟩

theorem outA_node (l r : R5.T) (a kind : Nat) (sv : List Int) (v : PV) : outA r (a + l.kinds) kind (sv ++ [((a + l.kinds - 1 : Nat) : Int)]) (outA l a kind (sv ++ [((a + l.kinds - 1 : Nat) : Int)]) v) = outA (.node l r) a kind sv v := by
  have hk : (R5.T.node l r).kinds = l.kinds + r.kinds := rfl
  have hp : (R5.T.node l r).path a kind = ((a + l.kinds - 1 : Nat) : Int) :: if kind < a + l.kinds then l.path a kind else r.path (a + l.kinds) kind := rfl
  unfold outA
  rw [hp]
  by_cases c1 : a ≤ kind ∧ kind < a + l.kinds
  · rw [if_neg (by omega), if_pos c1, if_pos (by omega), if_pos c1.2, List.append_assoc]; rfl
  · by_cases c2 : a + l.kinds ≤ kind ∧ kind < a + l.kinds + r.kinds
    · rw [if_pos c2, if_pos (by omega), if_neg (by omega), List.append_assoc]; rfl
    · rw [if_neg c2, if_neg c1, if_neg (by omega)]

abbrev cloA (L : List Int) (n1 n2 n3 : Nat) : AV := .clo 98 [.ptr n3 0, .ptr n1 0, .p (.ref [ints L] 0), .ptr n2 0]
abbrev HA (L : List Int) (at_ kind : Nat) (v : PV) : List (Nat × Ob) := [(5000000, .cells 3 [.p (natP at_)]), (5000001, .cells 109 [cloA L 5000000 5000001 5000002]),
  (5000002, .cells 85 [.clo 79 [.p (.ref [intP kind] 0), .ptr 5000003 0]]), (5000003, .cells 22 [.p v])]
theorem readA_spec (L : List Int) (hL : L.length ≤ 65536) (kind : Nat) (t : R5.T) : ∀ a at_ sv v rest, a + t.kinds ≤ 8 → L.drop at_ = t.enc a ++ rest → sv.length + t.kinds ≤ 1000 → PV.one v = true →
    FnO Try.prog 98 [.p (natP a), .p (natP (a + t.kinds - 1)), .p (ints sv), .ptr 5000002 0, .ptr 5000000 0, .p (.ref [ints L] 0), .ptr 5000001 0] (HA L at_ kind v)
      (fun x H => x = .p (boolP true) ∧ H = HA L (at_ + (t.kinds - 1)) kind (outA t a kind sv v)) := by
  induction t with
  | leaf =>
    intro a at_ sv v rest ha hd hsv hX
    simp only [R5.T.kinds] at ha hsv ⊢
    refine fnO_of (T := [ent_within, ent_clip]) [5000000, 5000001, 5000002, 5000003] [] (N := 64) (RO := [49]) (CH := []) (KS := [0, 1, 2, 3, 4, 5, 6, 10, 11, 12, 16, 20]) (NS := [2, 50, 5000000, 5000001, 5000002, 5000003]) (fun args w => Try.call98 args w) Try.func98 rfl rfl (by simp) mixed (by kernel_rfl) ⟨tab_within_ok, tab_clip_ok, trivial⟩ ?_
    have e : ((a : Int) == ((a + 1 - 1 : Nat) : Int)) = true := by simp
    simp only [go_sem, ↓reduceIte, Nat.reduceLT, Nat.reduceLeDiff, Nat.reduceEqDiff, Nat.reduceAdd, Nat.reduceSub, Nat.reduceDiv, Nat.reduceMod, Nat.reduceMul, Nat.reduceBEq, Nat.reduceBNe, reduceCtorEq, Int.reduceLT, Int.reduceLE, Int.reduceEq, Int.reduceNe, Int.reduceBEq, Int.reduceBNe, Int.reduceAdd, Int.reduceSub, Int.reduceNeg, Int.reduceToNat, e]
    refine vcallO [5000003] 10000 (tellA_spec kind a sv v hX (by omega)) (by first | rfl | (simp only [go_sem, seval, AV.mapN, AV.mapNL, Ob.mapN, mapNL_p, cnx, canH, canH.canH1, lowE, lowH, lowL, lowN, AV.allN, AV.allNL, Ob.allN, allNL_p, okNm, okKey, okH, bkp, bk, bkH, lof_snoc_int, List.getD_cons_zero, List.getD_cons_succ]; first | done | rfl) | (simp [AV.mapN, AV.mapNL, Ob.mapN, mapNL_p, cnx, canH, canH.canH1, St.h, lowE, lowH, lowL, lowN, AV.allN, AV.allNL, Ob.allN, allNL_p, okNm, okKey, okH, bkp, bk, bkH]; done)) (by first | rfl | (simp only [go_sem, seval, AV.mapN, AV.mapNL, Ob.mapN, mapNL_p, cnx, canH, canH.canH1, lowE, lowH, lowL, lowN, AV.allN, AV.allNL, Ob.allN, allNL_p, okNm, okKey, okH, bkp, bk, bkH, lof_snoc_int, List.getD_cons_zero, List.getD_cons_succ]; first | done | rfl) | (simp [AV.mapN, AV.mapNL, Ob.mapN, mapNL_p, cnx, canH, canH.canH1, St.h, lowE, lowH, lowL, lowN, AV.allN, AV.allNL, Ob.allN, allNL_p, okNm, okKey, okH, bkp, bk, bkH]; done)) (by omega) (by first | rfl | (simp only [go_sem, seval, AV.mapN, AV.mapNL, Ob.mapN, mapNL_p, cnx, canH, canH.canH1, lowE, lowH, lowL, lowN, AV.allN, AV.allNL, Ob.allN, allNL_p, okNm, okKey, okH, bkp, bk, bkH, lof_snoc_int, List.getD_cons_zero, List.getD_cons_succ]; first | done | rfl) | (simp [AV.mapN, AV.mapNL, Ob.mapN, mapNL_p, cnx, canH, canH.canH1, St.h, lowE, lowH, lowL, lowN, AV.allN, AV.allNL, Ob.allN, allNL_p, okNm, okKey, okH, bkp, bk, bkH]; done)) ?_
    rintro x H' ⟨rfl, rfl⟩
    refine ⟨(by first | rfl | (simp only [go_sem, seval, AV.mapN, AV.mapNL, Ob.mapN, mapNL_p, cnx, canH, canH.canH1, lowE, lowH, lowL, lowN, AV.allN, AV.allNL, Ob.allN, allNL_p, okNm, okKey, okH, bkp, bk, bkH, lof_snoc_int, List.getD_cons_zero, List.getD_cons_succ]; first | done | rfl) | (simp [AV.mapN, AV.mapNL, Ob.mapN, mapNL_p, cnx, canH, canH.canH1, St.h, lowE, lowH, lowL, lowN, AV.allN, AV.allNL, Ob.allN, allNL_p, okNm, okKey, okH, bkp, bk, bkH]; done)), ?_⟩
    simp only [go_sem, ↓reduceIte, Nat.reduceLT, Nat.reduceLeDiff, Nat.reduceEqDiff, Nat.reduceAdd, Nat.reduceSub, Nat.reduceDiv, Nat.reduceMod, Nat.reduceMul, Nat.reduceBEq, Nat.reduceBNe, reduceCtorEq, Int.reduceLT, Int.reduceLE, Int.reduceEq, Int.reduceNe, Int.reduceBEq, Int.reduceBNe, Int.reduceAdd, Int.reduceSub, Int.reduceNeg, Int.reduceToNat, St.back, AV.mapN, AV.mapNL, Ob.mapN, mapNL_p, bk, bkp, bkH]
    refine ⟨_, Le.refl _, ?_⟩
    first | rfl | exact ⟨rfl, rfl⟩
  | node l r ihl ihr =>
    intro a at_ sv v rest ha hd hsv hX
    have hl1 := l.kinds_pos; have hr1 := r.kinds_pos
    simp only [R5.T.kinds] at ha hsv ⊢
    refine fnO_of (T := [ent_within, ent_clip]) [5000000, 5000001, 5000002, 5000003] [] (N := 64) (RO := [49]) (CH := []) (KS := [0, 1, 2, 3, 4, 5, 6, 10, 11, 12, 16, 20]) (NS := [2, 50, 5000000, 5000001, 5000002, 5000003]) (fun args w => Try.call98 args w) Try.func98 rfl rfl (by simp) mixed (by kernel_rfl) ⟨tab_within_ok, tab_clip_ok, trivial⟩ ?_
    have e : ((a : Int) == ((a + (l.kinds + r.kinds) - 1 : Nat) : Int)) = false := by rw [beq_eq_false_iff_ne]; omega
    have e2 : ¬ ((a + (l.kinds + r.kinds) - 1 : Nat) : Int) < (a : Int) := by omega
    have hk : L[at_]? = some ((a + l.kinds - 1 : Nat) : Int) := by
      have := congrArg (fun l => l[0]?) hd
      simpa [R5.T.enc] using this
    have hlt := lt_get hk
    have hd1 : L.drop (at_ + 1) = l.enc a ++ (r.enc (a + l.kinds) ++ rest) := by
      have := congrArg (List.drop 1) hd
      simpa [R5.T.enc, List.append_assoc] using this
    have hlen := congrArg List.length hd1
    simp only [List.length_drop, List.length_append, R5.T.enc_length] at hlen
    have hd2 : L.drop (at_ + 1 + (l.kinds - 1)) = r.enc (a + l.kinds) ++ rest := by
      have := congrArg (List.drop (l.kinds - 1)) hd1
      rw [List.drop_drop] at this
      rw [this, ← R5.T.enc_length l a, List.drop_left]
    have e3 : ((at_ : Int) == (L.length : Int)) = false := by rw [beq_eq_false_iff_ne]; omega
    have e4 : inB ((a + l.kinds - 1 : Nat) : Int) a (((a + (l.kinds + r.kinds) - 1 : Nat) : Int) - 1) = true := by unfold inB; simp; omega
    have h1v : PV.one (outA l a kind (sv ++ [((a + l.kinds - 1 : Nat) : Int)]) v) = true := by unfold outA; split <;> first | rfl | exact hX
    have i1 := ihl a (at_ + 1) (sv ++ [((a + l.kinds - 1 : Nat) : Int)]) v _ (by omega) hd1 (by simp; omega) hX
    have i2 := ihr (a + l.kinds) (at_ + 1 + (l.kinds - 1)) (sv ++ [((a + l.kinds - 1 : Nat) : Int)]) _ _ (by omega) hd2 (by simp; omega) h1v
    have hsp := outA_node l r a kind sv v
    rw [hsp] at i2
    have ea : (at_ : Int) + 1 = ((at_ + 1 : Nat) : Int) := by push_cast; rfl
    have ei : ((a + l.kinds - 1 : Nat) : Int) + 1 = ((a + l.kinds : Nat) : Int) := by omega
    have eat : at_ + 1 + (l.kinds - 1) + (r.kinds - 1) = at_ + (l.kinds + r.kinds - 1) := by omega
    rw [eat] at i2
    rw [show a + l.kinds + r.kinds - 1 = a + (l.kinds + r.kinds) - 1 by omega] at i2
    generalize outA (.node l r) a kind sv v = v2 at *
    generalize outA l a kind (sv ++ [((a + l.kinds - 1 : Nat) : Int)]) v = v1 at *
    simp only [go_sem, ↓reduceIte, Nat.reduceLT, Nat.reduceLeDiff, Nat.reduceEqDiff, Nat.reduceAdd, Nat.reduceSub, Nat.reduceDiv, Nat.reduceMod, Nat.reduceMul, Nat.reduceBEq, Nat.reduceBNe, reduceCtorEq, Int.reduceLT, Int.reduceLE, Int.reduceEq, Int.reduceNe, Int.reduceBEq, Int.reduceBNe, Int.reduceAdd, Int.reduceSub, Int.reduceNeg, Int.reduceToNat, false_and, e, e2, e3, e4, lof_getD hk, lof_snoc_int, ea]
    (repeat with_reducible refine And.intro (by (repeat' with_reducible refine And.intro ?_ ?_) <;> first | with_reducible assumption | omega | (simp only [InK_i64, InK_u64, InK_u8]; omega) | (unfold sz; omega) | exact True.intro) ?_)
    refine vcall_seal (n := 2) rfl rfl ?_
    simp only [go_sem, ↓reduceIte, Nat.reduceLT, Nat.reduceLeDiff, Nat.reduceEqDiff, Nat.reduceAdd, Nat.reduceSub, Nat.reduceDiv, Nat.reduceMod, Nat.reduceMul, Nat.reduceBEq, Nat.reduceBNe, reduceCtorEq, Int.reduceLT, Int.reduceLE, Int.reduceEq, Int.reduceNe, Int.reduceBEq, Int.reduceBNe, Int.reduceAdd, Int.reduceSub, Int.reduceNeg, Int.reduceToNat]
    refine vcallO [5000000, 5000001, 5000002, 5000003] 10000 i1 (by first | rfl | (simp only [go_sem, seval, AV.mapN, AV.mapNL, Ob.mapN, mapNL_p, cnx, canH, canH.canH1, lowE, lowH, lowL, lowN, AV.allN, AV.allNL, Ob.allN, allNL_p, okNm, okKey, okH, bkp, bk, bkH, lof_snoc_int, List.getD_cons_zero, List.getD_cons_succ]; first | done | rfl) | (simp [AV.mapN, AV.mapNL, Ob.mapN, mapNL_p, cnx, canH, canH.canH1, St.h, lowE, lowH, lowL, lowN, AV.allN, AV.allNL, Ob.allN, allNL_p, okNm, okKey, okH, bkp, bk, bkH]; done)) (by first | rfl | (simp only [go_sem, seval, AV.mapN, AV.mapNL, Ob.mapN, mapNL_p, cnx, canH, canH.canH1, lowE, lowH, lowL, lowN, AV.allN, AV.allNL, Ob.allN, allNL_p, okNm, okKey, okH, bkp, bk, bkH, lof_snoc_int, List.getD_cons_zero, List.getD_cons_succ]; first | done | rfl) | (simp [AV.mapN, AV.mapNL, Ob.mapN, mapNL_p, cnx, canH, canH.canH1, St.h, lowE, lowH, lowL, lowN, AV.allN, AV.allNL, Ob.allN, allNL_p, okNm, okKey, okH, bkp, bk, bkH]; done)) (by omega) (by first | rfl | (simp only [go_sem, seval, AV.mapN, AV.mapNL, Ob.mapN, mapNL_p, cnx, canH, canH.canH1, lowE, lowH, lowL, lowN, AV.allN, AV.allNL, Ob.allN, allNL_p, okNm, okKey, okH, bkp, bk, bkH, lof_snoc_int, List.getD_cons_zero, List.getD_cons_succ]; first | done | rfl) | (simp [AV.mapN, AV.mapNL, Ob.mapN, mapNL_p, cnx, canH, canH.canH1, St.h, lowE, lowH, lowL, lowN, AV.allN, AV.allNL, Ob.allN, allNL_p, okNm, okKey, okH, bkp, bk, bkH]; done)) ?_
    rintro x H' ⟨rfl, rfl⟩
    refine ⟨(by first | rfl | (simp only [go_sem, seval, AV.mapN, AV.mapNL, Ob.mapN, mapNL_p, cnx, canH, canH.canH1, lowE, lowH, lowL, lowN, AV.allN, AV.allNL, Ob.allN, allNL_p, okNm, okKey, okH, bkp, bk, bkH, lof_snoc_int, List.getD_cons_zero, List.getD_cons_succ]; first | done | rfl) | (simp [AV.mapN, AV.mapNL, Ob.mapN, mapNL_p, cnx, canH, canH.canH1, St.h, lowE, lowH, lowL, lowN, AV.allN, AV.allNL, Ob.allN, allNL_p, okNm, okKey, okH, bkp, bk, bkH]; done)), ?_⟩
    simp only [go_sem, ↓reduceIte, Nat.reduceLT, Nat.reduceLeDiff, Nat.reduceEqDiff, Nat.reduceAdd, Nat.reduceSub, Nat.reduceDiv, Nat.reduceMod, Nat.reduceMul, Nat.reduceBEq, Nat.reduceBNe, reduceCtorEq, Int.reduceLT, Int.reduceLE, Int.reduceEq, Int.reduceNe, Int.reduceBEq, Int.reduceBNe, Int.reduceAdd, Int.reduceSub, Int.reduceNeg, Int.reduceToNat, St.back, AV.mapN, AV.mapNL, Ob.mapN, mapNL_p, bk, bkp, bkH, ei]
    (repeat with_reducible refine And.intro (by (repeat' with_reducible refine And.intro ?_ ?_) <;> first | with_reducible assumption | omega | (simp only [InK_i64, InK_u64, InK_u8]; omega) | (unfold sz; omega) | exact True.intro) ?_)
    refine vcallO [5000000, 5000001, 5000002, 5000003] 20000 i2 (by first | rfl | (simp only [go_sem, seval, AV.mapN, AV.mapNL, Ob.mapN, mapNL_p, cnx, canH, canH.canH1, lowE, lowH, lowL, lowN, AV.allN, AV.allNL, Ob.allN, allNL_p, okNm, okKey, okH, bkp, bk, bkH, lof_snoc_int, List.getD_cons_zero, List.getD_cons_succ]; first | done | rfl) | (simp [AV.mapN, AV.mapNL, Ob.mapN, mapNL_p, cnx, canH, canH.canH1, St.h, lowE, lowH, lowL, lowN, AV.allN, AV.allNL, Ob.allN, allNL_p, okNm, okKey, okH, bkp, bk, bkH]; done)) (by first | rfl | (simp only [go_sem, seval, AV.mapN, AV.mapNL, Ob.mapN, mapNL_p, cnx, canH, canH.canH1, lowE, lowH, lowL, lowN, AV.allN, AV.allNL, Ob.allN, allNL_p, okNm, okKey, okH, bkp, bk, bkH, lof_snoc_int, List.getD_cons_zero, List.getD_cons_succ]; first | done | rfl) | (simp [AV.mapN, AV.mapNL, Ob.mapN, mapNL_p, cnx, canH, canH.canH1, St.h, lowE, lowH, lowL, lowN, AV.allN, AV.allNL, Ob.allN, allNL_p, okNm, okKey, okH, bkp, bk, bkH]; done)) (by omega) (by first | rfl | (simp only [go_sem, seval, AV.mapN, AV.mapNL, Ob.mapN, mapNL_p, cnx, canH, canH.canH1, lowE, lowH, lowL, lowN, AV.allN, AV.allNL, Ob.allN, allNL_p, okNm, okKey, okH, bkp, bk, bkH, lof_snoc_int, List.getD_cons_zero, List.getD_cons_succ]; first | done | rfl) | (simp [AV.mapN, AV.mapNL, Ob.mapN, mapNL_p, cnx, canH, canH.canH1, St.h, lowE, lowH, lowL, lowN, AV.allN, AV.allNL, Ob.allN, allNL_p, okNm, okKey, okH, bkp, bk, bkH]; done)) ?_
    rintro x H' ⟨rfl, rfl⟩
    refine ⟨(by first | rfl | (simp only [go_sem, seval, AV.mapN, AV.mapNL, Ob.mapN, mapNL_p, cnx, canH, canH.canH1, lowE, lowH, lowL, lowN, AV.allN, AV.allNL, Ob.allN, allNL_p, okNm, okKey, okH, bkp, bk, bkH, lof_snoc_int, List.getD_cons_zero, List.getD_cons_succ]; first | done | rfl) | (simp [AV.mapN, AV.mapNL, Ob.mapN, mapNL_p, cnx, canH, canH.canH1, St.h, lowE, lowH, lowL, lowN, AV.allN, AV.allNL, Ob.allN, allNL_p, okNm, okKey, okH, bkp, bk, bkH]; done)), ?_⟩
    simp only [go_sem, ↓reduceIte, Nat.reduceLT, Nat.reduceLeDiff, Nat.reduceEqDiff, Nat.reduceAdd, Nat.reduceSub, Nat.reduceDiv, Nat.reduceMod, Nat.reduceMul, Nat.reduceBEq, Nat.reduceBNe, reduceCtorEq, Int.reduceLT, Int.reduceLE, Int.reduceEq, Int.reduceNe, Int.reduceBEq, Int.reduceBNe, Int.reduceAdd, Int.reduceSub, Int.reduceNeg, Int.reduceToNat, St.back, AV.mapN, AV.mapNL, Ob.mapN, mapNL_p, bk, bkp, bkH]
    refine ⟨_, Le.refl _, ?_⟩
    first | rfl | exact ⟨rfl, rfl⟩

theorem readAF_spec (kind : Nat) (t : R5.T) (v : PV) (hv : PV.one v = true) (h8 : t.kinds ≤ 8) :
    FnO Try.prog 74 [.p (natP t.kinds), .p (ints (t.enc 0)), .clo 79 [.p (.ref [intP kind] 0), .ptr 5000000 0]] (HO v) (fun x H => x = .p (boolP true) ∧ H = HO (outA t 0 kind [] v)) := by
  have h1 := t.kinds_pos
  have hlen := t.enc_length 0
  have hr := readA_spec (t.enc 0) (by omega) kind t 0 0 [] v [] (by omega) (by rw [List.drop_zero, List.append_nil]) (by simp; omega) hv
  have eq : natP (0 + t.kinds - 1) = intP ((t.kinds : Int) - 1) := by unfold natP intP; congr 2; omega
  rw [eq, Nat.zero_add] at hr
  refine fnO_of (T := []) [5000000] [] (N := 20) (RO := [4]) (CH := []) (KS := [0, 1, 2, 4, 5, 6, 7, 8]) (NS := [5, 7, 8, 5000000]) (fun args w => Try.call74 args w) Try.func74 rfl rfl (by simp) mixed (by kernel_rfl) trivial ?_
  simp only [go_sem, ↓reduceIte, Nat.reduceLT, Nat.reduceLeDiff, Nat.reduceEqDiff, Nat.reduceAdd, Nat.reduceSub, Nat.reduceDiv, Nat.reduceMod, Nat.reduceMul, Nat.reduceBEq, Nat.reduceBNe, reduceCtorEq, Int.reduceLT, Int.reduceLE, Int.reduceEq, Int.reduceNe, Int.reduceBEq, Int.reduceBNe, Int.reduceAdd, Int.reduceSub, Int.reduceNeg, Int.reduceToNat]
  refine ⟨by rw [InK_i64]; omega, ?_⟩
  refine vcallO [7, 8, 5, 5000000] 10000 (hr.le (.eq _ (.eq _ (.le le_nil_ints (.eq _ (.eq _ (.eq _ (.eq _ .nil)))))))) (by first | rfl | (simp only [go_sem, seval, AV.mapN, AV.mapNL, Ob.mapN, mapNL_p, cnx, canH, canH.canH1, lowE, lowH, lowL, lowN, AV.allN, AV.allNL, Ob.allN, allNL_p, okNm, okKey, okH, bkp, bk, bkH, lof_snoc_int, List.getD_cons_zero, List.getD_cons_succ]; first | done | rfl) | (simp [AV.mapN, AV.mapNL, Ob.mapN, mapNL_p, cnx, canH, canH.canH1, St.h, lowE, lowH, lowL, lowN, AV.allN, AV.allNL, Ob.allN, allNL_p, okNm, okKey, okH, bkp, bk, bkH]; done)) (by first | rfl | (simp only [go_sem, seval, AV.mapN, AV.mapNL, Ob.mapN, mapNL_p, cnx, canH, canH.canH1, lowE, lowH, lowL, lowN, AV.allN, AV.allNL, Ob.allN, allNL_p, okNm, okKey, okH, bkp, bk, bkH, lof_snoc_int, List.getD_cons_zero, List.getD_cons_succ]; first | done | rfl) | (simp [AV.mapN, AV.mapNL, Ob.mapN, mapNL_p, cnx, canH, canH.canH1, St.h, lowE, lowH, lowL, lowN, AV.allN, AV.allNL, Ob.allN, allNL_p, okNm, okKey, okH, bkp, bk, bkH]; done)) (by omega) (by first | rfl | (simp only [go_sem, seval, AV.mapN, AV.mapNL, Ob.mapN, mapNL_p, cnx, canH, canH.canH1, lowE, lowH, lowL, lowN, AV.allN, AV.allNL, Ob.allN, allNL_p, okNm, okKey, okH, bkp, bk, bkH, lof_snoc_int, List.getD_cons_zero, List.getD_cons_succ]; first | done | rfl) | (simp [AV.mapN, AV.mapNL, Ob.mapN, mapNL_p, cnx, canH, canH.canH1, St.h, lowE, lowH, lowL, lowN, AV.allN, AV.allNL, Ob.allN, allNL_p, okNm, okKey, okH, bkp, bk, bkH]; done)) ?_
  rintro x H' ⟨rfl, rfl⟩
  refine ⟨(by first | rfl | (simp only [go_sem, seval, AV.mapN, AV.mapNL, Ob.mapN, mapNL_p, cnx, canH, canH.canH1, lowE, lowH, lowL, lowN, AV.allN, AV.allNL, Ob.allN, allNL_p, okNm, okKey, okH, bkp, bk, bkH, lof_snoc_int, List.getD_cons_zero, List.getD_cons_succ]; first | done | rfl) | (simp [AV.mapN, AV.mapNL, Ob.mapN, mapNL_p, cnx, canH, canH.canH1, St.h, lowE, lowH, lowL, lowN, AV.allN, AV.allNL, Ob.allN, allNL_p, okNm, okKey, okH, bkp, bk, bkH]; done)), ?_⟩
  have e : (((t.kinds - 1 : Nat) : Int) == ((t.enc 0).length : Int)) = true := by rw [hlen]; simp
  simp only [go_sem, ↓reduceIte, Nat.reduceLT, Nat.reduceLeDiff, Nat.reduceEqDiff, Nat.reduceAdd, Nat.reduceSub, Nat.reduceDiv, Nat.reduceMod, Nat.reduceMul, Nat.reduceBEq, Nat.reduceBNe, reduceCtorEq, Int.reduceLT, Int.reduceLE, Int.reduceEq, Int.reduceNe, Int.reduceBEq, Int.reduceBNe, Int.reduceAdd, Int.reduceSub, Int.reduceNeg, Int.reduceToNat, St.back, AV.mapN, AV.mapNL, Ob.mapN, mapNL_p, bk, bkp, bkH, e]
  refine ⟨_, Le.refl _, ?_⟩
  first | rfl | exact ⟨rfl, rfl⟩

def askedE (k : Int) (L : List Int) (kind : Int) : Int := if validE k L = 0 then (if 0 ≤ kind ∧ kind < k then 0 else 2) else validE k L
def askedV (k : Int) (L : List Int) (kind : Int) : List Int := if askedE k L kind = 0 then (R5.treeOf k.toNat L).path 0 kind.toNat else []

theorem Asked5_spec (k : Int) (L : List Int) (kind : Int) (hpre : L.length ≤ 65536) : Ret Try.prog 39 [intP k, ints L, intP kind] (.tuple [ints (askedV k L kind), errP (askedE k L kind)]) := by
  refine fn_of (T := [ent_Valid5, ent_within]) (N := 28) (RO := [5]) (CH := []) (KS := [0, 1, 2, 5, 6, 7, 8, 9, 13, 17]) (NS := [6, 9]) (fun args w => Try.call39 args w) Try.func39 rfl rfl (by simp) mixed (by kernel_rfl) ⟨tab_Valid5_ok, tab_within_ok, trivial⟩ ?_
  simp only [go_sem, ↓reduceIte, Nat.reduceLT, Nat.reduceLeDiff, Nat.reduceEqDiff, Nat.reduceAdd, Nat.reduceSub, Nat.reduceDiv, Nat.reduceMod, Nat.reduceMul, Nat.reduceBEq, Nat.reduceBNe, reduceCtorEq, Int.reduceLT, Int.reduceLE, Int.reduceEq, Int.reduceNe, Int.reduceBEq, Int.reduceBNe, Int.reduceAdd, Int.reduceSub, Int.reduceNeg, Int.reduceToNat]
  refine ⟨hpre, ?_⟩
  unfold askedV askedE
  by_cases h : validE k L = 0
  · obtain ⟨n, rfl, h1, h8, hv⟩ := validE_zero.1 h
    obtain ⟨hk, hL⟩ := valid_tree h1 hv
    have hin : inB kind 0 ((n : Int) - 1) = decide (0 ≤ kind ∧ kind < n) := by
      unfold inB
      by_cases h1 : 0 ≤ kind <;> by_cases h2 : kind < n <;> simp [h1, h2] <;> omega
    rw [if_pos h]
    by_cases hm : 0 ≤ kind ∧ kind < n
    · obtain ⟨j, rfl⟩ : ∃ j : Nat, kind = j := ⟨kind.toNat, by omega⟩
      simp only [go_sem, ↓reduceIte, Nat.reduceLT, Nat.reduceLeDiff, Nat.reduceEqDiff, Nat.reduceAdd, Nat.reduceSub, Nat.reduceDiv, Nat.reduceMod, Nat.reduceMul, Nat.reduceBEq, Nat.reduceBNe, reduceCtorEq, Int.reduceLT, Int.reduceLE, Int.reduceEq, Int.reduceNe, Int.reduceBEq, Int.reduceBNe, Int.reduceAdd, Int.reduceSub, Int.reduceNeg, Int.reduceToNat, h, bne_self_eq_false, hin, hm]
      refine ⟨by rw [InK_i64]; omega, ?_⟩
      have hr := readAF_spec j (R5.treeOf n L) (.val (.slice none 0 0)) rfl (by omega)
      rw [← hL, hk] at hr
      have eo : outA (R5.treeOf n L) 0 j [] (.val (.slice none 0 0)) = ints ((R5.treeOf n L).path 0 j) := by unfold outA; rw [if_pos ⟨by omega, by omega⟩, List.nil_append]
      rw [eo] at hr
      refine vcallO [9] 10000 hr (by first | rfl | (simp only [go_sem, seval, AV.mapN, AV.mapNL, Ob.mapN, mapNL_p, cnx, canH, canH.canH1, lowE, lowH, lowL, lowN, AV.allN, AV.allNL, Ob.allN, allNL_p, okNm, okKey, okH, bkp, bk, bkH, lof_snoc_int, List.getD_cons_zero, List.getD_cons_succ]; first | done | rfl) | (simp [AV.mapN, AV.mapNL, Ob.mapN, mapNL_p, cnx, canH, canH.canH1, St.h, lowE, lowH, lowL, lowN, AV.allN, AV.allNL, Ob.allN, allNL_p, okNm, okKey, okH, bkp, bk, bkH]; done)) (by first | rfl | (simp only [go_sem, seval, AV.mapN, AV.mapNL, Ob.mapN, mapNL_p, cnx, canH, canH.canH1, lowE, lowH, lowL, lowN, AV.allN, AV.allNL, Ob.allN, allNL_p, okNm, okKey, okH, bkp, bk, bkH, lof_snoc_int, List.getD_cons_zero, List.getD_cons_succ]; first | done | rfl) | (simp [AV.mapN, AV.mapNL, Ob.mapN, mapNL_p, cnx, canH, canH.canH1, St.h, lowE, lowH, lowL, lowN, AV.allN, AV.allNL, Ob.allN, allNL_p, okNm, okKey, okH, bkp, bk, bkH]; done)) (by omega) (by first | rfl | (simp only [go_sem, seval, AV.mapN, AV.mapNL, Ob.mapN, mapNL_p, cnx, canH, canH.canH1, lowE, lowH, lowL, lowN, AV.allN, AV.allNL, Ob.allN, allNL_p, okNm, okKey, okH, bkp, bk, bkH, lof_snoc_int, List.getD_cons_zero, List.getD_cons_succ]; first | done | rfl) | (simp [AV.mapN, AV.mapNL, Ob.mapN, mapNL_p, cnx, canH, canH.canH1, St.h, lowE, lowH, lowL, lowN, AV.allN, AV.allNL, Ob.allN, allNL_p, okNm, okKey, okH, bkp, bk, bkH]; done)) ?_
      rintro x H' ⟨rfl, rfl⟩
      refine ⟨(by first | rfl | (simp only [go_sem, seval, AV.mapN, AV.mapNL, Ob.mapN, mapNL_p, cnx, canH, canH.canH1, lowE, lowH, lowL, lowN, AV.allN, AV.allNL, Ob.allN, allNL_p, okNm, okKey, okH, bkp, bk, bkH, lof_snoc_int, List.getD_cons_zero, List.getD_cons_succ]; first | done | rfl) | (simp [AV.mapN, AV.mapNL, Ob.mapN, mapNL_p, cnx, canH, canH.canH1, St.h, lowE, lowH, lowL, lowN, AV.allN, AV.allNL, Ob.allN, allNL_p, okNm, okKey, okH, bkp, bk, bkH]; done)), ?_⟩
      simp only [go_sem, ↓reduceIte, Nat.reduceLT, Nat.reduceLeDiff, Nat.reduceEqDiff, Nat.reduceAdd, Nat.reduceSub, Nat.reduceDiv, Nat.reduceMod, Nat.reduceMul, Nat.reduceBEq, Nat.reduceBNe, reduceCtorEq, Int.reduceLT, Int.reduceLE, Int.reduceEq, Int.reduceNe, Int.reduceBEq, Int.reduceBNe, Int.reduceAdd, Int.reduceSub, Int.reduceNeg, Int.reduceToNat, St.back, AV.mapN, AV.mapNL, Ob.mapN, mapNL_p, bk, bkp, bkH]
      exact ex_le_refl rfl
    · simp only [go_sem, ↓reduceIte, Nat.reduceLT, Nat.reduceLeDiff, Nat.reduceEqDiff, Nat.reduceAdd, Nat.reduceSub, Nat.reduceDiv, Nat.reduceMod, Nat.reduceMul, Nat.reduceBEq, Nat.reduceBNe, reduceCtorEq, Int.reduceLT, Int.reduceLE, Int.reduceEq, Int.reduceNe, Int.reduceBEq, Int.reduceBNe, Int.reduceAdd, Int.reduceSub, Int.reduceNeg, Int.reduceToNat, h, bne_self_eq_false, hin, hm]
      refine ⟨by rw [InK_i64]; omega, ?_⟩
      refine ex_le ?_
      (repeat' (first | exact Le.refl _ | exact Le.nilS _ _ | exact Le.tight | refine Le.tuple ?_ | refine Le.list ?_ | refine Le.agg ?_ | refine LeL.cons ?_ ?_ | exact LeL.nil))
  · have hn : (validE k L != 0) = true := by simp [h]
    simp only [go_sem, ↓reduceIte, Nat.reduceLT, Nat.reduceLeDiff, Nat.reduceEqDiff, Nat.reduceAdd, Nat.reduceSub, Nat.reduceDiv, Nat.reduceMod, Nat.reduceMul, Nat.reduceBEq, Nat.reduceBNe, reduceCtorEq, Int.reduceLT, Int.reduceLE, Int.reduceEq, Int.reduceNe, Int.reduceBEq, Int.reduceBNe, Int.reduceAdd, Int.reduceSub, Int.reduceNeg, Int.reduceToNat, hn]
    rw [if_neg h, if_neg h]
    refine ex_le ?_
    (repeat' (first | exact Le.refl _ | exact Le.nilS _ _ | exact Le.tight | refine Le.tuple ?_ | refine Le.list ?_ | refine Le.agg ?_ | refine LeL.cons ?_ ?_ | exact LeL.nil))
noncomputable def tab_Asked5 : Tab := tabOf (fun p : (Int) × (List Int) × (Int) => match p with | (k, L, kind) => [intP k, ints L, intP kind]) (fun p : (Int) × (List Int) × (Int) => match p with | (k, L, kind) => L.length ≤ 65536) (fun p : (Int) × (List Int) × (Int) => match p with | (k, L, kind) => .tuple [ints (askedV k L kind), errP (askedE k L kind)])
theorem tab_Asked5_eq (k : Int) (L : List Int) (kind : Int) : tab_Asked5 [intP k, ints L, intP kind] = some (L.length ≤ 65536, .p (.tuple [ints (askedV k L kind), errP (askedE k L kind)])) := tabOf_eq (enc := fun p : (Int) × (List Int) × (Int) => match p with | (k, L, kind) => [intP k, ints L, intP kind]) (pre := fun p : (Int) × (List Int) × (Int) => match p with | (k, L, kind) => L.length ≤ 65536) (out := fun p : (Int) × (List Int) × (Int) => match p with | (k, L, kind) => .tuple [ints (askedV k L kind), errP (askedE k L kind)]) (by rintro ⟨k, L, kind⟩ ⟨k', L', kind'⟩ h; simp at h; first | (simp [h]; done) | omega | (simp [h]; omega)) (k, L, kind)
theorem tab_Asked5_ok : TabOK Try.prog 39 tab_Asked5 := tabOf_ok (by rintro ⟨k, L, kind⟩ h; exact Asked5_spec k L kind h)
noncomputable abbrev ent_Asked5 : FuncId × List Nat × Tab := (39, [0,1,0], tab_Asked5)
attribute [go_sem] tab_Asked5_eq
end Go.V

namespace Go.V
open Go.Proofs
set_option maxRecDepth 10000
set_option maxHeartbeats 2000000

def questE (L Tr : List Int) : Int := if checkL L = 0 then validE L.length Tr else checkL L
def questV (L Tr : List Int) : Int := if checkL L = 0 then R5.dot L (depthsV L.length Tr) else 0
theorem depthsV_bd (n : Nat) (h : n ≤ 8) (Tr : List Int) : (depthsV n Tr).length ≤ n ∧ ∀ y ∈ depthsV n Tr, 0 ≤ y ∧ y ≤ 8 := by
  unfold depthsV
  split
  · rename_i hv
    obtain ⟨m, hm, h1, h8, hvb⟩ := validE_zero.1 hv
    have hm : m = n := by omega
    subst hm
    obtain ⟨hk, _⟩ := valid_tree h1 hvb
    rw [Int.toNat_natCast]
    refine ⟨by rw [R5.T.dep_length, hk]; omega, fun y hy => ?_⟩
    have := R5.T.dep_bd _ y hy
    omega
  · simp
theorem Quest5_spec (L : List Int) (Tr : List Int) (hpre : sz L.length ∧ Tr.length ≤ 65536) : Ret Try.prog 41 [ints L, ints Tr] (.tuple [intP (questV L Tr), errP (questE L Tr)]) := by
  refine fn_of (T := [ent_check5, ent_Depths5]) (N := 42) (RO := []) (CH := []) (KS := [0, 1, 4, 5, 6, 7, 8, 9, 10, 11, 15, 24, 25, 26, 27]) (NS := []) (fun args w => Try.call41 args w) Try.func41 rfl rfl (by simp) mixed (by kernel_rfl) ⟨tab_check5_ok, tab_Depths5_ok, trivial⟩ ?_
  simp only [go_sem, ↓reduceIte, Nat.reduceLT, Nat.reduceLeDiff, Nat.reduceEqDiff, Nat.reduceAdd, Nat.reduceSub, Nat.reduceDiv, Nat.reduceMod, Nat.reduceMul, Nat.reduceBEq, Nat.reduceBNe, reduceCtorEq, Int.reduceLT, Int.reduceLE, Int.reduceEq, Int.reduceNe, Int.reduceBEq, Int.reduceBNe, Int.reduceAdd, Int.reduceSub, Int.reduceNeg, Int.reduceToNat]
  refine ⟨hpre.1, ?_⟩
  unfold questV questE
  by_cases h : checkL L = 0
  · have hL := loads_ok h
    obtain ⟨hb1, hb2⟩ := depthsV_bd L.length hL.hi Tr
    have h8 := hL.hi
    rw [if_pos h, if_pos h]
    simp only [go_sem, ↓reduceIte, Nat.reduceLT, Nat.reduceLeDiff, Nat.reduceEqDiff, Nat.reduceAdd, Nat.reduceSub, Nat.reduceDiv, Nat.reduceMod, Nat.reduceMul, Nat.reduceBEq, Nat.reduceBNe, reduceCtorEq, Int.reduceLT, Int.reduceLE, Int.reduceEq, Int.reduceNe, Int.reduceBEq, Int.reduceBNe, Int.reduceAdd, Int.reduceSub, Int.reduceNeg, Int.reduceToNat, h, bne_self_eq_false]
    (repeat with_reducible refine And.intro (by (repeat' with_reducible refine And.intro ?_ ?_) <;> first | with_reducible assumption | omega | (simp only [InK_i64, InK_u64, InK_u8]; omega) | (unfold sz; omega) | exact True.intro) ?_)
    generalize depthsV L.length Tr = D at *
    generalize validE L.length Tr = ve at *
    refine vfor [0,7,8,9,24,25,26] [] [] D.length (fun _ => True) (fun i => ⟨[(0,.p (ints L)),(7,.p (ints D)),(8,.p (errP ve)),(9,.p (intP (R5.dot (L.take i) (D.take i)))),(24,.p (ints D)),(25,.p (natP D.length)),(26,.p (natP i))], []⟩) (by first | rfl | (simp only [go_sem, ↓reduceIte, Nat.reduceLT, Nat.reduceLeDiff, Nat.reduceEqDiff, Nat.reduceAdd, Nat.reduceSub, Nat.reduceDiv, Nat.reduceMod, Nat.reduceMul, Nat.reduceBEq, Nat.reduceBNe, reduceCtorEq, Int.reduceLT, Int.reduceLE, Int.reduceEq, Int.reduceNe, Int.reduceBEq, Int.reduceBNe, Int.reduceAdd, Int.reduceSub, Int.reduceNeg, Int.reduceToNat, List.take_zero, R5.dot]; first | done | rfl)) trivial ?_
    intro i hi _
    have hdb2 := dot_bd (L.take i) (D.take i) (fun x hx => by have := hL.ld x (List.mem_of_mem_take hx); omega) (fun y hy => hb2 y (List.mem_of_mem_take hy))
    have htl : (L.take i).length ≤ 8 := by simp; omega
    by_cases hlt : i < D.length
    · obtain ⟨y, hy⟩ := get_some hlt
      obtain ⟨x, hx⟩ := get_some (show i < L.length by omega)
      have hs := dot_snoc hx hy
      have hxb := hL.ld x (List.mem_of_getElem? hx)
      have hyb := hb2 y (List.mem_of_getElem? hy)
      have hm := mul_bd (x := x) (y := y) (by omega) (by omega)
      simp only [go_sem, ↓reduceIte, Nat.reduceLT, Nat.reduceLeDiff, Nat.reduceEqDiff, Nat.reduceAdd, Nat.reduceSub, Nat.reduceDiv, Nat.reduceMod, Nat.reduceMul, Nat.reduceBEq, Nat.reduceBNe, reduceCtorEq, Int.reduceLT, Int.reduceLE, Int.reduceEq, Int.reduceNe, Int.reduceBEq, Int.reduceBNe, Int.reduceAdd, Int.reduceSub, Int.reduceNeg, Int.reduceToNat, hlt, lof_getD hx, lof_getD hy, show i < L.length by omega]
      rw [hs]
      generalize x * y = xy at *
      (repeat' (first | (rw [InK_i64]; omega) | (rw [InK_u8]; omega) | (rw [InK_u64]; omega) | omega | rfl | apply And.intro))
    · simp only [go_sem, ↓reduceIte, Nat.reduceLT, Nat.reduceLeDiff, Nat.reduceEqDiff, Nat.reduceAdd, Nat.reduceSub, Nat.reduceDiv, Nat.reduceMod, Nat.reduceMul, Nat.reduceBEq, Nat.reduceBNe, reduceCtorEq, Int.reduceLT, Int.reduceLE, Int.reduceEq, Int.reduceNe, Int.reduceBEq, Int.reduceBNe, Int.reduceAdd, Int.reduceSub, Int.reduceNeg, Int.reduceToNat, hlt]
      obtain rfl : i = D.length := by omega
      rw [List.take_length]
      have e1 : R5.dot (L.take D.length) D = R5.dot L D := by
        have h := R5.dot_append (L.take D.length) (L.drop D.length) D [] (by simp; omega)
        rw [List.take_append_drop, List.append_nil] at h
        rw [h]
        cases L.drop D.length <;> simp [R5.dot]
      rw [e1]
      exact ex_le_refl rfl
  · have hn : (checkL L != 0) = true := by simp [h]
    rw [if_neg h, if_neg h]
    simp only [go_sem, ↓reduceIte, Nat.reduceLT, Nat.reduceLeDiff, Nat.reduceEqDiff, Nat.reduceAdd, Nat.reduceSub, Nat.reduceDiv, Nat.reduceMod, Nat.reduceMul, Nat.reduceBEq, Nat.reduceBNe, reduceCtorEq, Int.reduceLT, Int.reduceLE, Int.reduceEq, Int.reduceNe, Int.reduceBEq, Int.reduceBNe, Int.reduceAdd, Int.reduceSub, Int.reduceNeg, Int.reduceToNat, hn]
    exact ex_le_refl rfl
noncomputable def tab_Quest5 : Tab := tabOf (fun p : (List Int) × (List Int) => match p with | (L, Tr) => [ints L, ints Tr]) (fun p : (List Int) × (List Int) => match p with | (L, Tr) => sz L.length ∧ Tr.length ≤ 65536) (fun p : (List Int) × (List Int) => match p with | (L, Tr) => .tuple [intP (questV L Tr), errP (questE L Tr)])
theorem tab_Quest5_eq (L : List Int) (Tr : List Int) : tab_Quest5 [ints L, ints Tr] = some (sz L.length ∧ Tr.length ≤ 65536, .p (.tuple [intP (questV L Tr), errP (questE L Tr)])) := tabOf_eq (enc := fun p : (List Int) × (List Int) => match p with | (L, Tr) => [ints L, ints Tr]) (pre := fun p : (List Int) × (List Int) => match p with | (L, Tr) => sz L.length ∧ Tr.length ≤ 65536) (out := fun p : (List Int) × (List Int) => match p with | (L, Tr) => .tuple [intP (questV L Tr), errP (questE L Tr)]) (by rintro ⟨L, Tr⟩ ⟨L', Tr'⟩ h; simp at h; first | (simp [h]; done) | omega | (simp [h]; omega)) (L, Tr)
theorem tab_Quest5_ok : TabOK Try.prog 41 tab_Quest5 := tabOf_ok (by rintro ⟨L, Tr⟩ h; exact Quest5_spec L Tr h)
noncomputable abbrev ent_Quest5 : FuncId × List Nat × Tab := (41, [1,1], tab_Quest5)
attribute [go_sem] tab_Quest5_eq
end Go.V

namespace Go.V
open Go.Proofs
set_option maxRecDepth 10000
set_option maxHeartbeats 2000000

theorem grow_spec (n : Nat) (hn : n ≤ 65536) : FnO Try.prog 100 [.p (.val (.slice none 0 0)), .p (natP n)] [] (fun x H => x = .sl 4 ∧ H = [(4, .vec 3 1 [])]) := by
  by_cases h : n = 0
  · subst h
    refine fnO_of (T := []) [4] [.nilS 4 3 1] (N := 27) (RO := []) (CH := []) (KS := [0, 1, 4, 6, 16]) (NS := [0, 4, 22]) (fun args w => Try.call100 args w) Try.func100 rfl rfl (by simp) mixed (by kernel_rfl) trivial ?_
    simp only [go_sem, ↓reduceIte, Nat.reduceLT, Nat.reduceLeDiff, Nat.reduceEqDiff, Nat.reduceAdd, Nat.reduceSub, Nat.reduceDiv, Nat.reduceMod, Nat.reduceMul, Nat.reduceBEq, Nat.reduceBNe, reduceCtorEq, Int.reduceLT, Int.reduceLE, Int.reduceEq, Int.reduceNe, Int.reduceBEq, Int.reduceBNe, Int.reduceAdd, Int.reduceSub, Int.reduceNeg, Int.reduceToNat]
    (repeat' (first | (rw [InK_i64]; omega) | (rw [InK_u8]; omega) | (rw [InK_u64]; omega) | omega | rfl | apply And.intro))
  · refine fnO_of (T := []) [4] [] (N := 27) (RO := []) (CH := []) (KS := [0, 1, 4, 6, 16]) (NS := [0, 4, 20, 22, 25]) (fun args w => Try.call100 args w) Try.func100 rfl rfl (by simp) mixed (by kernel_rfl) trivial ?_
    have e1 : ¬ (n : Int) < 0 := by omega
    have e2 : (0 : Int) < (n : Int) := by omega
    simp only [go_sem, ↓reduceIte, Nat.reduceLT, Nat.reduceLeDiff, Nat.reduceEqDiff, Nat.reduceAdd, Nat.reduceSub, Nat.reduceDiv, Nat.reduceMod, Nat.reduceMul, Nat.reduceBEq, Nat.reduceBNe, reduceCtorEq, Int.reduceLT, Int.reduceLE, Int.reduceEq, Int.reduceNe, Int.reduceBEq, Int.reduceBNe, Int.reduceAdd, Int.reduceSub, Int.reduceNeg, Int.reduceToNat, Int.sub_zero, e1, e2]
    (repeat' (first | (rw [InK_i64]; omega) | (rw [InK_u8]; omega) | (rw [InK_u64]; omega) | omega | rfl | apply And.intro))

theorem flat_snoc {ls : List (List Int)} {i : Nat} {l : List Int} (h : ls[i]? = some l) : (ls.take (i + 1)).flatten = (ls.take i).flatten ++ l := by
  rw [take_succ_of h, List.flatten_append]; simp
theorem flat_le (ls : List (List Int)) (i : Nat) : (ls.take i).flatten.length ≤ ls.flatten.length := by
  conv => rhs; rw [← List.take_append_drop i ls, List.flatten_append, List.length_append]
  omega

theorem concat_spec (ls : List (List Int)) (h1 : ls.length ≤ 65536) (h2 : ls.flatten.length ≤ 65536) : Ret Try.prog 82 [lists ls] (ints ls.flatten) := by
  refine fn_of (T := []) (N := 36) (RO := []) (CH := []) (KS := [0, 2, 3, 5, 6, 8, 9, 10, 11, 12, 20, 25, 26, 27, 28]) (NS := [2, 6, 33, 10004]) (fun args w => Try.call82 args w) Try.func82 rfl rfl (by simp) mixed (by kernel_rfl) trivial ?_
  simp only [go_sem, ↓reduceIte, Nat.reduceLT, Nat.reduceLeDiff, Nat.reduceEqDiff, Nat.reduceAdd, Nat.reduceSub, Nat.reduceDiv, Nat.reduceMod, Nat.reduceMul, Nat.reduceBEq, Nat.reduceBNe, reduceCtorEq, Int.reduceLT, Int.reduceLE, Int.reduceEq, Int.reduceNe, Int.reduceBEq, Int.reduceBNe, Int.reduceAdd, Int.reduceSub, Int.reduceNeg, Int.reduceToNat]
  refine vfor [0,3,9,10,11] [] [] ls.length (fun _ => True) (fun i => ⟨[(0,.p (lists ls)),(3,.p (natP (ls.take i).flatten.length)),(9,.p (lists ls)),(10,.p (natP ls.length)),(11,.p (natP i))], []⟩) (by first | rfl | (simp only [go_sem, ↓reduceIte, Nat.reduceLT, Nat.reduceLeDiff, Nat.reduceEqDiff, Nat.reduceAdd, Nat.reduceSub, Nat.reduceDiv, Nat.reduceMod, Nat.reduceMul, Nat.reduceBEq, Nat.reduceBNe, reduceCtorEq, Int.reduceLT, Int.reduceLE, Int.reduceEq, Int.reduceNe, Int.reduceBEq, Int.reduceBNe, Int.reduceAdd, Int.reduceSub, Int.reduceNeg, Int.reduceToNat, List.take_zero, List.flatten_nil]; first | done | rfl)) trivial ?_
  intro i hi _
  have hle := flat_le ls i
  by_cases hlt : i < ls.length
  · obtain ⟨l, hl⟩ := get_some hlt
    have hs := flat_snoc hl
    have hle2 := flat_le ls (i + 1)
    rw [hs, List.length_append] at hle2
    have ea : ((ls.take i).flatten.length : Int) + (l.length : Int) = (((ls.take i).flatten.length + l.length : Nat) : Int) := by push_cast; rfl
    have e1 : ¬ (((ls.take i).flatten.length + l.length : Nat) : Int) < 0 := by omega
    simp only [go_sem, ↓reduceIte, Nat.reduceLT, Nat.reduceLeDiff, Nat.reduceEqDiff, Nat.reduceAdd, Nat.reduceSub, Nat.reduceDiv, Nat.reduceMod, Nat.reduceMul, Nat.reduceBEq, Nat.reduceBNe, reduceCtorEq, Int.reduceLT, Int.reduceLE, Int.reduceEq, Int.reduceNe, Int.reduceBEq, Int.reduceBNe, Int.reduceAdd, Int.reduceSub, Int.reduceNeg, Int.reduceToNat, hlt, lof_getD hl, ea, e1]
    rw [hs, List.length_append]
    (repeat' (first | (rw [InK_i64]; omega) | (rw [InK_u8]; omega) | (rw [InK_u64]; omega) | omega | rfl | apply And.intro))
  · simp only [go_sem, ↓reduceIte, Nat.reduceLT, Nat.reduceLeDiff, Nat.reduceEqDiff, Nat.reduceAdd, Nat.reduceSub, Nat.reduceDiv, Nat.reduceMod, Nat.reduceMul, Nat.reduceBEq, Nat.reduceBNe, reduceCtorEq, Int.reduceLT, Int.reduceLE, Int.reduceEq, Int.reduceNe, Int.reduceBEq, Int.reduceBNe, Int.reduceAdd, Int.reduceSub, Int.reduceNeg, Int.reduceToNat, hlt]
    obtain rfl : i = ls.length := by omega
    rw [List.take_length]
    refine vcallO [] 10000 (grow_spec ls.flatten.length h2) (by first | rfl | (simp only [go_sem, seval, AV.mapN, AV.mapNL, Ob.mapN, mapNL_p, cnx, canH, canH.canH1, lowE, lowH, lowL, lowN, AV.allN, AV.allNL, Ob.allN, allNL_p, okNm, okKey, okH, bkp, bk, bkH, lof_snoc_int, List.getD_cons_zero, List.getD_cons_succ]; first | done | rfl) | (simp [AV.mapN, AV.mapNL, Ob.mapN, mapNL_p, cnx, canH, canH.canH1, St.h, lowE, lowH, lowL, lowN, AV.allN, AV.allNL, Ob.allN, allNL_p, okNm, okKey, okH, bkp, bk, bkH]; done)) (by first | rfl | (simp only [go_sem, seval, AV.mapN, AV.mapNL, Ob.mapN, mapNL_p, cnx, canH, canH.canH1, lowE, lowH, lowL, lowN, AV.allN, AV.allNL, Ob.allN, allNL_p, okNm, okKey, okH, bkp, bk, bkH, lof_snoc_int, List.getD_cons_zero, List.getD_cons_succ]; first | done | rfl) | (simp [AV.mapN, AV.mapNL, Ob.mapN, mapNL_p, cnx, canH, canH.canH1, St.h, lowE, lowH, lowL, lowN, AV.allN, AV.allNL, Ob.allN, allNL_p, okNm, okKey, okH, bkp, bk, bkH]; done)) (by omega) (by first | rfl | (simp only [go_sem, seval, AV.mapN, AV.mapNL, Ob.mapN, mapNL_p, cnx, canH, canH.canH1, lowE, lowH, lowL, lowN, AV.allN, AV.allNL, Ob.allN, allNL_p, okNm, okKey, okH, bkp, bk, bkH, lof_snoc_int, List.getD_cons_zero, List.getD_cons_succ]; first | done | rfl) | (simp [AV.mapN, AV.mapNL, Ob.mapN, mapNL_p, cnx, canH, canH.canH1, St.h, lowE, lowH, lowL, lowN, AV.allN, AV.allNL, Ob.allN, allNL_p, okNm, okKey, okH, bkp, bk, bkH]; done)) ?_
    rintro x H' ⟨rfl, rfl⟩
    refine ⟨(by first | rfl | (simp only [go_sem, seval, AV.mapN, AV.mapNL, Ob.mapN, mapNL_p, cnx, canH, canH.canH1, lowE, lowH, lowL, lowN, AV.allN, AV.allNL, Ob.allN, allNL_p, okNm, okKey, okH, bkp, bk, bkH, lof_snoc_int, List.getD_cons_zero, List.getD_cons_succ]; first | done | rfl) | (simp [AV.mapN, AV.mapNL, Ob.mapN, mapNL_p, cnx, canH, canH.canH1, St.h, lowE, lowH, lowL, lowN, AV.allN, AV.allNL, Ob.allN, allNL_p, okNm, okKey, okH, bkp, bk, bkH]; done)), ?_⟩
    simp only [go_sem, ↓reduceIte, Nat.reduceLT, Nat.reduceLeDiff, Nat.reduceEqDiff, Nat.reduceAdd, Nat.reduceSub, Nat.reduceDiv, Nat.reduceMod, Nat.reduceMul, Nat.reduceBEq, Nat.reduceBNe, reduceCtorEq, Int.reduceLT, Int.reduceLE, Int.reduceEq, Int.reduceNe, Int.reduceBEq, Int.reduceBNe, Int.reduceAdd, Int.reduceSub, Int.reduceNeg, Int.reduceToNat, St.back, AV.mapN, AV.mapNL, Ob.mapN, mapNL_p, bk, bkp, bkH]
    refine vfor [6,25,26,27] [6] [] ls.length (fun _ => True) (fun i => ⟨[(6,.sl 6),(25,.p (lists ls)),(26,.p (natP ls.length)),(27,.p (natP i))], [(6,.vec 3 1 (lof intP (ls.take i).flatten))]⟩) (by first | rfl | (simp only [go_sem, ↓reduceIte, Nat.reduceLT, Nat.reduceLeDiff, Nat.reduceEqDiff, Nat.reduceAdd, Nat.reduceSub, Nat.reduceDiv, Nat.reduceMod, Nat.reduceMul, Nat.reduceBEq, Nat.reduceBNe, reduceCtorEq, Int.reduceLT, Int.reduceLE, Int.reduceEq, Int.reduceNe, Int.reduceBEq, Int.reduceBNe, Int.reduceAdd, Int.reduceSub, Int.reduceNeg, Int.reduceToNat, List.take_zero, List.flatten_nil]; first | done | rfl)) trivial ?_
    intro j hj _
    have hle := flat_le ls j
    by_cases hlt : j < ls.length
    · obtain ⟨l, hl⟩ := get_some hlt
      have hs := flat_snoc hl
      have hle2 := flat_le ls (j + 1)
      rw [hs, List.length_append] at hle2
      simp only [go_sem, ↓reduceIte, Nat.reduceLT, Nat.reduceLeDiff, Nat.reduceEqDiff, Nat.reduceAdd, Nat.reduceSub, Nat.reduceDiv, Nat.reduceMod, Nat.reduceMul, Nat.reduceBEq, Nat.reduceBNe, reduceCtorEq, Int.reduceLT, Int.reduceLE, Int.reduceEq, Int.reduceNe, Int.reduceBEq, Int.reduceBNe, Int.reduceAdd, Int.reduceSub, Int.reduceNeg, Int.reduceToNat, hlt, lof_getD hl]
      rw [hs, ← lof_append]
      refine ⟨by omega, by rw [InK_i64]; omega, ?_⟩
      (repeat' (first | (rw [InK_i64]; omega) | (rw [InK_u8]; omega) | (rw [InK_u64]; omega) | omega | rfl | apply And.intro))
    · simp only [go_sem, ↓reduceIte, Nat.reduceLT, Nat.reduceLeDiff, Nat.reduceEqDiff, Nat.reduceAdd, Nat.reduceSub, Nat.reduceDiv, Nat.reduceMod, Nat.reduceMul, Nat.reduceBEq, Nat.reduceBNe, reduceCtorEq, Int.reduceLT, Int.reduceLE, Int.reduceEq, Int.reduceNe, Int.reduceBEq, Int.reduceBNe, Int.reduceAdd, Int.reduceSub, Int.reduceNeg, Int.reduceToNat, hlt]
      obtain rfl : j = ls.length := by omega
      rw [List.take_length]
      exact ex_le_refl rfl
end Go.V
