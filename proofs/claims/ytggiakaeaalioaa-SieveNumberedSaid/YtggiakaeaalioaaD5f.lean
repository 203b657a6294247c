/-
  Contracts of the program of chapter 05: the list of a tree is read. Conditions: none.
  Contracts of the program of chapter 05: lists are checked. Conditions: none.
  Contracts of the program of chapter 05: depths. Conditions: none.
-/
import Derived.Test.YtggiakaeaalioaaD5d
set_option linter.unusedVariables false
set_option linter.unusedSimpArgs false
set_option linter.deprecated false
namespace Go.V
open Go.Proofs
set_option maxRecDepth 10000
set_option maxHeartbeats 2000000

theorem clip_spec (l : List Int) (hpre : sz l.length) : Ret Try.prog 99 [ints l] (.list .tight 1 (lof intP l)) := by
  refine fn_of (T := []) (N := 9) (RO := []) (CH := []) (KS := [0, 2]) (NS := []) (fun args w => Try.call99 args w) Try.func99 rfl rfl (by simp) mixed (by kernel_rfl) trivial ?_
  simp only [go_sem, ↓reduceIte, Nat.reduceLT, Nat.reduceLeDiff, Nat.reduceEqDiff, Nat.reduceAdd, Nat.reduceSub, Nat.reduceDiv, Nat.reduceMod, Nat.reduceMul, Nat.reduceBEq, Nat.reduceBNe, reduceCtorEq, Int.reduceLT, Int.reduceLE, Int.reduceEq, Int.reduceNe, Int.reduceBEq, Int.reduceBNe, Int.reduceAdd, Int.reduceSub, Int.reduceNeg, Int.reduceToNat]
  (repeat with_reducible refine And.intro (by (repeat' with_reducible refine And.intro ?_ ?_) <;> first | with_reducible assumption | omega | (simp only [InK_i64, InK_u64, InK_u8]; omega) | (unfold sz; omega) | exact True.intro) ?_)
  rw [show l.length = (lof intP l).length by simp [lof], List.take_length]
  exact ex_le_refl rfl
noncomputable def tab_clip : Tab := tabOf (fun p : (List Int) => match p with | l => [ints l]) (fun p : (List Int) => match p with | l => sz l.length) (fun p : (List Int) => match p with | l => .list .tight 1 (lof intP l))
theorem tab_clip_eq (l : List Int) : tab_clip [ints l] = some (sz l.length, .p (.list .tight 1 (lof intP l))) := tabOf_eq (enc := fun p : (List Int) => match p with | l => [ints l]) (pre := fun p : (List Int) => match p with | l => sz l.length) (out := fun p : (List Int) => match p with | l => .list .tight 1 (lof intP l)) (by rintro l l' h; simp at h; first | (simp [h]; done) | omega | (simp [h]; omega)) (l)
theorem tab_clip_ok : TabOK Try.prog 99 tab_clip := tabOf_ok (by rintro l h; exact clip_spec l h)
noncomputable abbrev ent_clip : FuncId × List Nat × Tab := (99, [1], tab_clip)
attribute [go_sem] tab_clip_eq

theorem tellV_spec (k : Int) (l : List Int) (hpre : True) : Ret Try.prog 75 [intP k, ints l] (.tuple []) := by
  refine fn_of (T := []) (N := 4) (RO := []) (CH := []) (KS := []) (NS := []) (fun args w => Try.call75 args w) Try.func75 rfl rfl (by simp) mixed (by kernel_rfl) trivial ?_
  simp only [go_sem, ↓reduceIte, Nat.reduceLT, Nat.reduceLeDiff, Nat.reduceEqDiff, Nat.reduceAdd, Nat.reduceSub, Nat.reduceDiv, Nat.reduceMod, Nat.reduceMul, Nat.reduceBEq, Nat.reduceBNe, reduceCtorEq, Int.reduceLT, Int.reduceLE, Int.reduceEq, Int.reduceNe, Int.reduceBEq, Int.reduceBNe, Int.reduceAdd, Int.reduceSub, Int.reduceNeg, Int.reduceToNat]
  exact ex_le_refl rfl
noncomputable def tab_tellV : Tab := tabOf (fun p : (Int) × (List Int) => match p with | (k, l) => [intP k, ints l]) (fun p : (Int) × (List Int) => match p with | (k, l) => True) (fun p : (Int) × (List Int) => match p with | (k, l) => .tuple [])
theorem tab_tellV_eq (k : Int) (l : List Int) : tab_tellV [intP k, ints l] = some (True, .p (.tuple [])) := tabOf_eq (enc := fun p : (Int) × (List Int) => match p with | (k, l) => [intP k, ints l]) (pre := fun p : (Int) × (List Int) => match p with | (k, l) => True) (out := fun p : (Int) × (List Int) => match p with | (k, l) => .tuple []) (by rintro ⟨k, l⟩ ⟨k', l'⟩ h; simp at h; first | (simp [h]; done) | omega | (simp [h]; omega)) (k, l)
theorem tab_tellV_ok : TabOK Try.prog 75 tab_tellV := tabOf_ok (by rintro ⟨k, l⟩ h; exact tellV_spec k l h)
noncomputable abbrev ent_tellV : FuncId × List Nat × Tab := (75, [0,1], tab_tellV)
attribute [go_sem] tab_tellV_eq

theorem drop_step {L : List Int} {at_ : Nat} {k : Int} (h : L[at_]? = some k) : L.drop at_ = k :: L.drop (at_ + 1) := by
  have hlt := lt_get h
  rw [List.drop_eq_getElem_cons hlt]
  have : L[at_] = k := by rw [List.getElem?_eq_getElem hlt] at h; simpa using h
  rw [this]
abbrev cloV (L : List Int) (n1 n2 : Nat) : AV := .clo 98 [.p (.ref [.func 75 []] 0), .ptr n1 0, .p (.ref [ints L] 0), .ptr n2 0]
abbrev HV (L : List Int) (at_ : Nat) : List (Nat × Ob) := [(5000000, .cells 3 [.p (natP at_)]), (5000001, .cells 109 [cloV L 5000000 5000001])]
theorem readV_spec (L : List Int) (hL : L.length ≤ 65536) : ∀ n, 1 ≤ n → n ≤ 8 → ∀ a at_ sv, a + n ≤ 8 → at_ ≤ L.length → sv.length + n ≤ 1000 →
    FnO Try.prog 98 [.p (natP a), .p (natP (a + n - 1)), .p (ints sv), .p (.ref [.func 75 []] 0), .ptr 5000000 0, .p (.ref [ints L] 0), .ptr 5000001 0] (HV L at_)
      (fun x H => ∃ at', at' ≤ L.length ∧ H = HV L at' ∧ ((R5.parse n a (L.drop at_) = none ∧ x = .p (boolP false)) ∨ ∃ t, R5.parse n a (L.drop at_) = some (t, L.drop at') ∧ x = .p (boolP true))) := by
  intro n
  induction n using Nat.strongRecOn with
  | _ n ih =>
  intro h1 hn8 a at_ sv ha hat hsv
  by_cases hn : n = 1
  · subst hn
    refine fnO_of (T := [ent_within, ent_clip, ent_tellV]) [5000000, 5000001] [] (N := 64) (RO := [49]) (CH := []) (KS := [0, 1, 2, 3, 4, 5, 6, 10, 11, 12, 16, 20]) (NS := [2, 50, 5000000, 5000001]) (fun args w => Try.call98 args w) Try.func98 rfl rfl (by simp) mixed (by kernel_rfl) ⟨tab_within_ok, tab_clip_ok, tab_tellV_ok, trivial⟩ ?_
    have e : ((a : Int) == ((a + 1 - 1 : Nat) : Int)) = true := by simp
    simp only [go_sem, ↓reduceIte, Nat.reduceLT, Nat.reduceLeDiff, Nat.reduceEqDiff, Nat.reduceAdd, Nat.reduceSub, Nat.reduceDiv, Nat.reduceMod, Nat.reduceMul, Nat.reduceBEq, Nat.reduceBNe, reduceCtorEq, Int.reduceLT, Int.reduceLE, Int.reduceEq, Int.reduceNe, Int.reduceBEq, Int.reduceBNe, Int.reduceAdd, Int.reduceSub, Int.reduceNeg, Int.reduceToNat, e]
    exact ⟨_, Le.refl _, at_, hat, rfl, .inr ⟨_, R5.parse_one a _, rfl⟩⟩
  · refine fnO_of (T := [ent_within, ent_clip, ent_tellV]) [5000000, 5000001] [] (N := 64) (RO := [49]) (CH := []) (KS := [0, 1, 2, 3, 4, 5, 6, 10, 11, 12, 16, 20]) (NS := [2, 50, 5000000, 5000001]) (fun args w => Try.call98 args w) Try.func98 rfl rfl (by simp) mixed (by kernel_rfl) ⟨tab_within_ok, tab_clip_ok, tab_tellV_ok, trivial⟩ ?_
    have e : ((a : Int) == ((a + n - 1 : Nat) : Int)) = false := by rw [beq_eq_false_iff_ne]; omega
    have e2 : ¬ ((a + n - 1 : Nat) : Int) < (a : Int) := by omega
    by_cases hlt : at_ < L.length
    · have e3 : ((at_ : Int) == (L.length : Int)) = false := by rw [beq_eq_false_iff_ne]; omega
      obtain ⟨k, hk⟩ := get_some hlt
      have hdr := drop_step hk
      by_cases hin : (a : Int) ≤ k ∧ k < (a : Int) + n - 1
      · have e4 : inB k a (((a + n - 1 : Nat) : Int) - 1) = true := by unfold inB; simp; omega
        obtain ⟨i, rfl⟩ : ∃ i : Nat, k = ((a + i : Nat) : Int) := ⟨(k - a).toNat, by omega⟩
        have hst := R5.parse_step (a := a) (l := L.drop (at_ + 1)) (n := n) (i := i) (by omega) (by omega)
        rw [← hdr] at hst
        have i1 := ih (i + 1) (by omega) (by omega) (by omega) a (at_ + 1) (sv ++ [((a + i : Nat) : Int)]) (by omega) (by omega) (by simp; omega)
        rw [show a + (i + 1) - 1 = a + i by omega] at i1
        have ea : (at_ : Int) + 1 = ((at_ + 1 : Nat) : Int) := by push_cast; rfl
        have ei : ((a + i : Nat) : Int) + 1 = ((a + (i + 1) : Nat) : Int) := by push_cast; omega
        simp only [go_sem, ↓reduceIte, Nat.reduceLT, Nat.reduceLeDiff, Nat.reduceEqDiff, Nat.reduceAdd, Nat.reduceSub, Nat.reduceDiv, Nat.reduceMod, Nat.reduceMul, Nat.reduceBEq, Nat.reduceBNe, reduceCtorEq, Int.reduceLT, Int.reduceLE, Int.reduceEq, Int.reduceNe, Int.reduceBEq, Int.reduceBNe, Int.reduceAdd, Int.reduceSub, Int.reduceNeg, Int.reduceToNat, false_and, e, e2, e3, e4, lof_getD hk, lof_snoc_int, ea]
        (repeat with_reducible refine And.intro (by (repeat' with_reducible refine And.intro ?_ ?_) <;> first | with_reducible assumption | omega | (simp only [InK_i64, InK_u64, InK_u8]; omega) | (unfold sz; omega) | exact True.intro) ?_)
        refine vcall_seal (n := 2) rfl rfl ?_
        simp only [go_sem, ↓reduceIte, Nat.reduceLT, Nat.reduceLeDiff, Nat.reduceEqDiff, Nat.reduceAdd, Nat.reduceSub, Nat.reduceDiv, Nat.reduceMod, Nat.reduceMul, Nat.reduceBEq, Nat.reduceBNe, reduceCtorEq, Int.reduceLT, Int.reduceLE, Int.reduceEq, Int.reduceNe, Int.reduceBEq, Int.reduceBNe, Int.reduceAdd, Int.reduceSub, Int.reduceNeg, Int.reduceToNat]
        refine vcallO [5000000, 5000001] 10000 i1 (by first | rfl | (simp only [go_sem, seval, AV.mapN, AV.mapNL, Ob.mapN, mapNL_p, cnx, canH, canH.canH1, lowE, lowH, lowL, lowN, AV.allN, AV.allNL, Ob.allN, allNL_p, okNm, okKey, okH, bkp, bk, bkH, lof_snoc_int, List.getD_cons_zero, List.getD_cons_succ]; first | done | rfl) | (simp [AV.mapN, AV.mapNL, Ob.mapN, mapNL_p, cnx, canH, canH.canH1, St.h, lowE, lowH, lowL, lowN, AV.allN, AV.allNL, Ob.allN, allNL_p, okNm, okKey, okH, bkp, bk, bkH]; done)) (by first | rfl | (simp only [go_sem, seval, AV.mapN, AV.mapNL, Ob.mapN, mapNL_p, cnx, canH, canH.canH1, lowE, lowH, lowL, lowN, AV.allN, AV.allNL, Ob.allN, allNL_p, okNm, okKey, okH, bkp, bk, bkH, lof_snoc_int, List.getD_cons_zero, List.getD_cons_succ]; first | done | rfl) | (simp [AV.mapN, AV.mapNL, Ob.mapN, mapNL_p, cnx, canH, canH.canH1, St.h, lowE, lowH, lowL, lowN, AV.allN, AV.allNL, Ob.allN, allNL_p, okNm, okKey, okH, bkp, bk, bkH]; done)) (by omega) (by first | rfl | (simp only [go_sem, seval, AV.mapN, AV.mapNL, Ob.mapN, mapNL_p, cnx, canH, canH.canH1, lowE, lowH, lowL, lowN, AV.allN, AV.allNL, Ob.allN, allNL_p, okNm, okKey, okH, bkp, bk, bkH, lof_snoc_int, List.getD_cons_zero, List.getD_cons_succ]; first | done | rfl) | (simp [AV.mapN, AV.mapNL, Ob.mapN, mapNL_p, cnx, canH, canH.canH1, St.h, lowE, lowH, lowL, lowN, AV.allN, AV.allNL, Ob.allN, allNL_p, okNm, okKey, okH, bkp, bk, bkH]; done)) ?_
        rintro x H' ⟨at1, hat1, rfl, hr⟩
        rcases hr with ⟨hp, rfl⟩ | ⟨t1, hp, rfl⟩
        · refine ⟨(by first | rfl | (simp only [go_sem, seval, AV.mapN, AV.mapNL, Ob.mapN, mapNL_p, cnx, canH, canH.canH1, lowE, lowH, lowL, lowN, AV.allN, AV.allNL, Ob.allN, allNL_p, okNm, okKey, okH, bkp, bk, bkH, lof_snoc_int, List.getD_cons_zero, List.getD_cons_succ]; first | done | rfl) | (simp [AV.mapN, AV.mapNL, Ob.mapN, mapNL_p, cnx, canH, canH.canH1, St.h, lowE, lowH, lowL, lowN, AV.allN, AV.allNL, Ob.allN, allNL_p, okNm, okKey, okH, bkp, bk, bkH]; done)), ?_⟩
          simp only [go_sem, ↓reduceIte, Nat.reduceLT, Nat.reduceLeDiff, Nat.reduceEqDiff, Nat.reduceAdd, Nat.reduceSub, Nat.reduceDiv, Nat.reduceMod, Nat.reduceMul, Nat.reduceBEq, Nat.reduceBNe, reduceCtorEq, Int.reduceLT, Int.reduceLE, Int.reduceEq, Int.reduceNe, Int.reduceBEq, Int.reduceBNe, Int.reduceAdd, Int.reduceSub, Int.reduceNeg, Int.reduceToNat, St.back, AV.mapN, AV.mapNL, Ob.mapN, mapNL_p, bk, bkp, bkH]
          exact ⟨_, Le.refl _, at1, hat1, rfl, .inl ⟨by rw [hst, hp], rfl⟩⟩
        · refine ⟨(by first | rfl | (simp only [go_sem, seval, AV.mapN, AV.mapNL, Ob.mapN, mapNL_p, cnx, canH, canH.canH1, lowE, lowH, lowL, lowN, AV.allN, AV.allNL, Ob.allN, allNL_p, okNm, okKey, okH, bkp, bk, bkH, lof_snoc_int, List.getD_cons_zero, List.getD_cons_succ]; first | done | rfl) | (simp [AV.mapN, AV.mapNL, Ob.mapN, mapNL_p, cnx, canH, canH.canH1, St.h, lowE, lowH, lowL, lowN, AV.allN, AV.allNL, Ob.allN, allNL_p, okNm, okKey, okH, bkp, bk, bkH]; done)), ?_⟩
          have i2 := ih (n - 1 - i) (by omega) (by omega) (by omega) (a + (i + 1)) at1 (sv ++ [((a + i : Nat) : Int)]) (by omega) hat1 (by simp; omega)
          rw [show a + (i + 1) + (n - 1 - i) - 1 = a + n - 1 by omega] at i2
          simp only [go_sem, ↓reduceIte, Nat.reduceLT, Nat.reduceLeDiff, Nat.reduceEqDiff, Nat.reduceAdd, Nat.reduceSub, Nat.reduceDiv, Nat.reduceMod, Nat.reduceMul, Nat.reduceBEq, Nat.reduceBNe, reduceCtorEq, Int.reduceLT, Int.reduceLE, Int.reduceEq, Int.reduceNe, Int.reduceBEq, Int.reduceBNe, Int.reduceAdd, Int.reduceSub, Int.reduceNeg, Int.reduceToNat, St.back, AV.mapN, AV.mapNL, Ob.mapN, mapNL_p, bk, bkp, bkH, ei]
          (repeat with_reducible refine And.intro (by (repeat' with_reducible refine And.intro ?_ ?_) <;> first | with_reducible assumption | omega | (simp only [InK_i64, InK_u64, InK_u8]; omega) | (unfold sz; omega) | exact True.intro) ?_)
          refine vcallO [5000000, 5000001] 20000 i2 (by first | rfl | (simp only [go_sem, seval, AV.mapN, AV.mapNL, Ob.mapN, mapNL_p, cnx, canH, canH.canH1, lowE, lowH, lowL, lowN, AV.allN, AV.allNL, Ob.allN, allNL_p, okNm, okKey, okH, bkp, bk, bkH, lof_snoc_int, List.getD_cons_zero, List.getD_cons_succ]; first | done | rfl) | (simp [AV.mapN, AV.mapNL, Ob.mapN, mapNL_p, cnx, canH, canH.canH1, St.h, lowE, lowH, lowL, lowN, AV.allN, AV.allNL, Ob.allN, allNL_p, okNm, okKey, okH, bkp, bk, bkH]; done)) (by first | rfl | (simp only [go_sem, seval, AV.mapN, AV.mapNL, Ob.mapN, mapNL_p, cnx, canH, canH.canH1, lowE, lowH, lowL, lowN, AV.allN, AV.allNL, Ob.allN, allNL_p, okNm, okKey, okH, bkp, bk, bkH, lof_snoc_int, List.getD_cons_zero, List.getD_cons_succ]; first | done | rfl) | (simp [AV.mapN, AV.mapNL, Ob.mapN, mapNL_p, cnx, canH, canH.canH1, St.h, lowE, lowH, lowL, lowN, AV.allN, AV.allNL, Ob.allN, allNL_p, okNm, okKey, okH, bkp, bk, bkH]; done)) (by omega) (by first | rfl | (simp only [go_sem, seval, AV.mapN, AV.mapNL, Ob.mapN, mapNL_p, cnx, canH, canH.canH1, lowE, lowH, lowL, lowN, AV.allN, AV.allNL, Ob.allN, allNL_p, okNm, okKey, okH, bkp, bk, bkH, lof_snoc_int, List.getD_cons_zero, List.getD_cons_succ]; first | done | rfl) | (simp [AV.mapN, AV.mapNL, Ob.mapN, mapNL_p, cnx, canH, canH.canH1, St.h, lowE, lowH, lowL, lowN, AV.allN, AV.allNL, Ob.allN, allNL_p, okNm, okKey, okH, bkp, bk, bkH]; done)) ?_
          rintro x H' ⟨at2, hat2, rfl, hr⟩
          rcases hr with ⟨hp2, rfl⟩ | ⟨t2, hp2, rfl⟩
          · refine ⟨(by first | rfl | (simp only [go_sem, seval, AV.mapN, AV.mapNL, Ob.mapN, mapNL_p, cnx, canH, canH.canH1, lowE, lowH, lowL, lowN, AV.allN, AV.allNL, Ob.allN, allNL_p, okNm, okKey, okH, bkp, bk, bkH, lof_snoc_int, List.getD_cons_zero, List.getD_cons_succ]; first | done | rfl) | (simp [AV.mapN, AV.mapNL, Ob.mapN, mapNL_p, cnx, canH, canH.canH1, St.h, lowE, lowH, lowL, lowN, AV.allN, AV.allNL, Ob.allN, allNL_p, okNm, okKey, okH, bkp, bk, bkH]; done)), ?_⟩
            simp only [go_sem, ↓reduceIte, Nat.reduceLT, Nat.reduceLeDiff, Nat.reduceEqDiff, Nat.reduceAdd, Nat.reduceSub, Nat.reduceDiv, Nat.reduceMod, Nat.reduceMul, Nat.reduceBEq, Nat.reduceBNe, reduceCtorEq, Int.reduceLT, Int.reduceLE, Int.reduceEq, Int.reduceNe, Int.reduceBEq, Int.reduceBNe, Int.reduceAdd, Int.reduceSub, Int.reduceNeg, Int.reduceToNat, St.back, AV.mapN, AV.mapNL, Ob.mapN, mapNL_p, bk, bkp, bkH]
            exact ⟨_, Le.refl _, at2, hat2, rfl, .inl ⟨by rw [hst, hp]; simp only [hp2], rfl⟩⟩
          · refine ⟨(by first | rfl | (simp only [go_sem, seval, AV.mapN, AV.mapNL, Ob.mapN, mapNL_p, cnx, canH, canH.canH1, lowE, lowH, lowL, lowN, AV.allN, AV.allNL, Ob.allN, allNL_p, okNm, okKey, okH, bkp, bk, bkH, lof_snoc_int, List.getD_cons_zero, List.getD_cons_succ]; first | done | rfl) | (simp [AV.mapN, AV.mapNL, Ob.mapN, mapNL_p, cnx, canH, canH.canH1, St.h, lowE, lowH, lowL, lowN, AV.allN, AV.allNL, Ob.allN, allNL_p, okNm, okKey, okH, bkp, bk, bkH]; done)), ?_⟩
            simp only [go_sem, ↓reduceIte, Nat.reduceLT, Nat.reduceLeDiff, Nat.reduceEqDiff, Nat.reduceAdd, Nat.reduceSub, Nat.reduceDiv, Nat.reduceMod, Nat.reduceMul, Nat.reduceBEq, Nat.reduceBNe, reduceCtorEq, Int.reduceLT, Int.reduceLE, Int.reduceEq, Int.reduceNe, Int.reduceBEq, Int.reduceBNe, Int.reduceAdd, Int.reduceSub, Int.reduceNeg, Int.reduceToNat, St.back, AV.mapN, AV.mapNL, Ob.mapN, mapNL_p, bk, bkp, bkH]
            exact ⟨_, Le.refl _, at2, hat2, rfl, .inr ⟨.node t1 t2, by rw [hst, hp]; simp only [hp2], rfl⟩⟩
      · have e4 : inB k a (((a + n - 1 : Nat) : Int) - 1) = false := by unfold inB; by_cases h : (a : Int) ≤ k <;> simp [h]; omega
        simp only [go_sem, ↓reduceIte, Nat.reduceLT, Nat.reduceLeDiff, Nat.reduceEqDiff, Nat.reduceAdd, Nat.reduceSub, Nat.reduceDiv, Nat.reduceMod, Nat.reduceMul, Nat.reduceBEq, Nat.reduceBNe, reduceCtorEq, Int.reduceLT, Int.reduceLE, Int.reduceEq, Int.reduceNe, Int.reduceBEq, Int.reduceBNe, Int.reduceAdd, Int.reduceSub, Int.reduceNeg, Int.reduceToNat, false_and, e, e2, e3, e4, lof_getD hk]
        (repeat with_reducible refine And.intro (by (repeat' with_reducible refine And.intro ?_ ?_) <;> first | with_reducible assumption | omega | (simp only [InK_i64, InK_u64, InK_u8]; omega) | (unfold sz; omega) | exact True.intro) ?_)
        exact ⟨_, Le.refl _, at_, hat, rfl, .inl ⟨by rw [hdr]; exact R5.parse_out (by omega) hin, rfl⟩⟩
    · have e3 : ((at_ : Int) == (L.length : Int)) = true := by simp; omega
      simp only [go_sem, ↓reduceIte, Nat.reduceLT, Nat.reduceLeDiff, Nat.reduceEqDiff, Nat.reduceAdd, Nat.reduceSub, Nat.reduceDiv, Nat.reduceMod, Nat.reduceMul, Nat.reduceBEq, Nat.reduceBNe, reduceCtorEq, Int.reduceLT, Int.reduceLE, Int.reduceEq, Int.reduceNe, Int.reduceBEq, Int.reduceBNe, Int.reduceAdd, Int.reduceSub, Int.reduceNeg, Int.reduceToNat, e, e2, e3]
      exact ⟨_, Le.refl _, at_, hat, rfl, .inl ⟨by rw [List.drop_of_length_le (by omega)]; exact R5.parse_nil a (by omega), rfl⟩⟩
end Go.V

namespace Go.V
open Go.Proofs
set_option maxRecDepth 10000
set_option maxHeartbeats 2000000

theorem le_nil_ints : Le (.val (.slice none 0 0)) (ints []) := Le.nilS _ _
theorem readB_spec (n : Nat) (L : List Int) (hpre : 1 ≤ n ∧ n ≤ 8 ∧ L.length ≤ 65536) : Ret Try.prog 74 [natP n, ints L, .func 75 []] (boolP (R5.validB n L)) := by
  refine fn_of (T := []) (N := 20) (RO := [4, 5]) (CH := []) (KS := [0, 1, 2, 4, 5, 6, 7, 8]) (NS := [7, 8]) (fun args w => Try.call74 args w) Try.func74 rfl rfl (by simp) mixed (by kernel_rfl) trivial ?_
  simp only [go_sem, ↓reduceIte, Nat.reduceLT, Nat.reduceLeDiff, Nat.reduceEqDiff, Nat.reduceAdd, Nat.reduceSub, Nat.reduceDiv, Nat.reduceMod, Nat.reduceMul, Nat.reduceBEq, Nat.reduceBNe, reduceCtorEq, Int.reduceLT, Int.reduceLE, Int.reduceEq, Int.reduceNe, Int.reduceBEq, Int.reduceBNe, Int.reduceAdd, Int.reduceSub, Int.reduceNeg, Int.reduceToNat]
  obtain ⟨h1, h8, hL⟩ := hpre
  have hr := readV_spec L hL n h1 h8 0 0 [] (by omega) (by omega) (by simp; omega)
  have eq : natP (0 + n - 1) = intP ((n : Int) - 1) := by unfold natP intP; congr 2; omega
  rw [eq, List.drop_zero] at hr
  refine ⟨by rw [InK_i64]; omega, ?_⟩
  refine vcallO [7, 8] 10000 (hr.le (.eq _ (.eq _ (.le le_nil_ints (.eq _ (.eq _ (.eq _ (.eq _ .nil)))))))) (by first | rfl | (simp only [go_sem, seval, AV.mapN, AV.mapNL, Ob.mapN, mapNL_p, cnx, canH, canH.canH1, lowE, lowH, lowL, lowN, AV.allN, AV.allNL, Ob.allN, allNL_p, okNm, okKey, okH, bkp, bk, bkH, lof_snoc_int, List.getD_cons_zero, List.getD_cons_succ]; first | done | rfl) | (simp [AV.mapN, AV.mapNL, Ob.mapN, mapNL_p, cnx, canH, canH.canH1, St.h, lowE, lowH, lowL, lowN, AV.allN, AV.allNL, Ob.allN, allNL_p, okNm, okKey, okH, bkp, bk, bkH]; done)) (by first | rfl | (simp only [go_sem, seval, AV.mapN, AV.mapNL, Ob.mapN, mapNL_p, cnx, canH, canH.canH1, lowE, lowH, lowL, lowN, AV.allN, AV.allNL, Ob.allN, allNL_p, okNm, okKey, okH, bkp, bk, bkH, lof_snoc_int, List.getD_cons_zero, List.getD_cons_succ]; first | done | rfl) | (simp [AV.mapN, AV.mapNL, Ob.mapN, mapNL_p, cnx, canH, canH.canH1, St.h, lowE, lowH, lowL, lowN, AV.allN, AV.allNL, Ob.allN, allNL_p, okNm, okKey, okH, bkp, bk, bkH]; done)) (by omega) (by first | rfl | (simp only [go_sem, seval, AV.mapN, AV.mapNL, Ob.mapN, mapNL_p, cnx, canH, canH.canH1, lowE, lowH, lowL, lowN, AV.allN, AV.allNL, Ob.allN, allNL_p, okNm, okKey, okH, bkp, bk, bkH, lof_snoc_int, List.getD_cons_zero, List.getD_cons_succ]; first | done | rfl) | (simp [AV.mapN, AV.mapNL, Ob.mapN, mapNL_p, cnx, canH, canH.canH1, St.h, lowE, lowH, lowL, lowN, AV.allN, AV.allNL, Ob.allN, allNL_p, okNm, okKey, okH, bkp, bk, bkH]; done)) ?_
  rintro x H' ⟨at1, hat1, rfl, hr⟩
  rcases hr with ⟨hp, rfl⟩ | ⟨t1, hp, rfl⟩
  · have hv : R5.validB n L = false := by
      rw [← Bool.not_eq_true, R5.valid_parse h1]
      rintro ⟨t, ht⟩; rw [hp] at ht; cases ht
    refine ⟨(by first | rfl | (simp only [go_sem, seval, AV.mapN, AV.mapNL, Ob.mapN, mapNL_p, cnx, canH, canH.canH1, lowE, lowH, lowL, lowN, AV.allN, AV.allNL, Ob.allN, allNL_p, okNm, okKey, okH, bkp, bk, bkH, lof_snoc_int, List.getD_cons_zero, List.getD_cons_succ]; first | done | rfl) | (simp [AV.mapN, AV.mapNL, Ob.mapN, mapNL_p, cnx, canH, canH.canH1, St.h, lowE, lowH, lowL, lowN, AV.allN, AV.allNL, Ob.allN, allNL_p, okNm, okKey, okH, bkp, bk, bkH]; done)), ?_⟩
    rw [hv]
    simp only [go_sem, ↓reduceIte, Nat.reduceLT, Nat.reduceLeDiff, Nat.reduceEqDiff, Nat.reduceAdd, Nat.reduceSub, Nat.reduceDiv, Nat.reduceMod, Nat.reduceMul, Nat.reduceBEq, Nat.reduceBNe, reduceCtorEq, Int.reduceLT, Int.reduceLE, Int.reduceEq, Int.reduceNe, Int.reduceBEq, Int.reduceBNe, Int.reduceAdd, Int.reduceSub, Int.reduceNeg, Int.reduceToNat, St.back, AV.mapN, AV.mapNL, Ob.mapN, mapNL_p, bk, bkp, bkH]
    exact ex_le_refl rfl
  · have hv : R5.validB n L = decide (at1 = L.length) := by
      rw [Bool.eq_iff_iff, R5.valid_parse h1, decide_eq_true_eq]
      constructor
      · rintro ⟨t, ht⟩
        rw [hp] at ht
        simp only [Option.some.injEq, Prod.mk.injEq] at ht
        have := congrArg List.length ht.2
        simp at this; omega
      · intro h
        exact ⟨t1, by rw [hp, h, List.drop_length]⟩
    refine ⟨(by first | rfl | (simp only [go_sem, seval, AV.mapN, AV.mapNL, Ob.mapN, mapNL_p, cnx, canH, canH.canH1, lowE, lowH, lowL, lowN, AV.allN, AV.allNL, Ob.allN, allNL_p, okNm, okKey, okH, bkp, bk, bkH, lof_snoc_int, List.getD_cons_zero, List.getD_cons_succ]; first | done | rfl) | (simp [AV.mapN, AV.mapNL, Ob.mapN, mapNL_p, cnx, canH, canH.canH1, St.h, lowE, lowH, lowL, lowN, AV.allN, AV.allNL, Ob.allN, allNL_p, okNm, okKey, okH, bkp, bk, bkH]; done)), ?_⟩
    rw [hv]
    have e : ((at1 : Int) == (L.length : Int)) = decide (at1 = L.length) := by
      by_cases h : at1 = L.length
      · simp [h]
      · rw [decide_eq_false h, beq_eq_false_iff_ne]; omega
    simp only [go_sem, ↓reduceIte, Nat.reduceLT, Nat.reduceLeDiff, Nat.reduceEqDiff, Nat.reduceAdd, Nat.reduceSub, Nat.reduceDiv, Nat.reduceMod, Nat.reduceMul, Nat.reduceBEq, Nat.reduceBNe, reduceCtorEq, Int.reduceLT, Int.reduceLE, Int.reduceEq, Int.reduceNe, Int.reduceBEq, Int.reduceBNe, Int.reduceAdd, Int.reduceSub, Int.reduceNeg, Int.reduceToNat, St.back, AV.mapN, AV.mapNL, Ob.mapN, mapNL_p, bk, bkp, bkH, e]
    exact ex_le_refl rfl
noncomputable def tab_readB : Tab := tabOf (fun p : (Nat) × (List Int) => match p with | (n, L) => [natP n, ints L, .func 75 []]) (fun p : (Nat) × (List Int) => match p with | (n, L) => 1 ≤ n ∧ n ≤ 8 ∧ L.length ≤ 65536) (fun p : (Nat) × (List Int) => match p with | (n, L) => boolP (R5.validB n L))
theorem tab_readB_eq (n : Nat) (L : List Int) : tab_readB [natP n, ints L, .func 75 []] = some (1 ≤ n ∧ n ≤ 8 ∧ L.length ≤ 65536, .p (boolP (R5.validB n L))) := tabOf_eq (enc := fun p : (Nat) × (List Int) => match p with | (n, L) => [natP n, ints L, .func 75 []]) (pre := fun p : (Nat) × (List Int) => match p with | (n, L) => 1 ≤ n ∧ n ≤ 8 ∧ L.length ≤ 65536) (out := fun p : (Nat) × (List Int) => match p with | (n, L) => boolP (R5.validB n L)) (by rintro ⟨n, L⟩ ⟨n', L'⟩ h; simp at h; first | (simp [h]; done) | omega | (simp [h]; omega)) (n, L)
theorem tab_readB_ok : TabOK Try.prog 74 tab_readB := tabOf_ok (by rintro ⟨n, L⟩ h; exact readB_spec n L h)
noncomputable abbrev ent_readB : FuncId × List Nat × Tab := (74, [0,1,0], tab_readB)
attribute [go_sem] tab_readB_eq

/-- the error of a list -/
def validE (k : Int) (L : List Int) : Int := if 1 ≤ k ∧ k ≤ 8 then (if R5.validB k.toNat L = true then 0 else 5) else 1
theorem Valid5_spec (k : Int) (L : List Int) (hpre : L.length ≤ 65536) : Ret Try.prog 35 [intP k, ints L] (errP (validE k L)) := by
  refine fn_of (T := [ent_within, ent_readB]) (N := 14) (RO := []) (CH := []) (KS := [0, 1, 4, 5, 9]) (NS := []) (fun args w => Try.call35 args w) Try.func35 rfl rfl (by simp) mixed (by kernel_rfl) ⟨tab_within_ok, tab_readB_ok, trivial⟩ ?_
  simp only [go_sem, ↓reduceIte, Nat.reduceLT, Nat.reduceLeDiff, Nat.reduceEqDiff, Nat.reduceAdd, Nat.reduceSub, Nat.reduceDiv, Nat.reduceMod, Nat.reduceMul, Nat.reduceBEq, Nat.reduceBNe, reduceCtorEq, Int.reduceLT, Int.reduceLE, Int.reduceEq, Int.reduceNe, Int.reduceBEq, Int.reduceBNe, Int.reduceAdd, Int.reduceSub, Int.reduceNeg, Int.reduceToNat]
  rw [inB_18]
  unfold validE
  by_cases h : 1 ≤ k ∧ k ≤ 8
  · obtain ⟨n, rfl⟩ : ∃ n : Nat, k = n := ⟨k.toNat, by omega⟩
    rw [if_pos h, show ((n : Int)).toNat = n by omega]
    cases hv : R5.validB n L with
    | true =>
      simp only [go_sem, ↓reduceIte, Nat.reduceLT, Nat.reduceLeDiff, Nat.reduceEqDiff, Nat.reduceAdd, Nat.reduceSub, Nat.reduceDiv, Nat.reduceMod, Nat.reduceMul, Nat.reduceBEq, Nat.reduceBNe, reduceCtorEq, Int.reduceLT, Int.reduceLE, Int.reduceEq, Int.reduceNe, Int.reduceBEq, Int.reduceBNe, Int.reduceAdd, Int.reduceSub, Int.reduceNeg, Int.reduceToNat, h, hv]
      (repeat with_reducible refine And.intro (by (repeat' with_reducible refine And.intro ?_ ?_) <;> first | with_reducible assumption | omega | (simp only [InK_i64, InK_u64, InK_u8]; omega) | (unfold sz; omega) | exact True.intro) ?_)
      exact ex_le_refl rfl
    | false =>
      simp only [go_sem, ↓reduceIte, Nat.reduceLT, Nat.reduceLeDiff, Nat.reduceEqDiff, Nat.reduceAdd, Nat.reduceSub, Nat.reduceDiv, Nat.reduceMod, Nat.reduceMul, Nat.reduceBEq, Nat.reduceBNe, reduceCtorEq, Int.reduceLT, Int.reduceLE, Int.reduceEq, Int.reduceNe, Int.reduceBEq, Int.reduceBNe, Int.reduceAdd, Int.reduceSub, Int.reduceNeg, Int.reduceToNat, h, hv]
      (repeat with_reducible refine And.intro (by (repeat' with_reducible refine And.intro ?_ ?_) <;> first | with_reducible assumption | omega | (simp only [InK_i64, InK_u64, InK_u8]; omega) | (unfold sz; omega) | exact True.intro) ?_)
      exact ex_le_refl rfl
  · rw [if_neg h]
    simp only [go_sem, ↓reduceIte, Nat.reduceLT, Nat.reduceLeDiff, Nat.reduceEqDiff, Nat.reduceAdd, Nat.reduceSub, Nat.reduceDiv, Nat.reduceMod, Nat.reduceMul, Nat.reduceBEq, Nat.reduceBNe, reduceCtorEq, Int.reduceLT, Int.reduceLE, Int.reduceEq, Int.reduceNe, Int.reduceBEq, Int.reduceBNe, Int.reduceAdd, Int.reduceSub, Int.reduceNeg, Int.reduceToNat, h]
    exact ex_le_refl rfl
noncomputable def tab_Valid5 : Tab := tabOf (fun p : (Int) × (List Int) => match p with | (k, L) => [intP k, ints L]) (fun p : (Int) × (List Int) => match p with | (k, L) => L.length ≤ 65536) (fun p : (Int) × (List Int) => match p with | (k, L) => errP (validE k L))
theorem tab_Valid5_eq (k : Int) (L : List Int) : tab_Valid5 [intP k, ints L] = some (L.length ≤ 65536, .p (errP (validE k L))) := tabOf_eq (enc := fun p : (Int) × (List Int) => match p with | (k, L) => [intP k, ints L]) (pre := fun p : (Int) × (List Int) => match p with | (k, L) => L.length ≤ 65536) (out := fun p : (Int) × (List Int) => match p with | (k, L) => errP (validE k L)) (by rintro ⟨k, L⟩ ⟨k', L'⟩ h; simp at h; first | (simp [h]; done) | omega | (simp [h]; omega)) (k, L)
theorem tab_Valid5_ok : TabOK Try.prog 35 tab_Valid5 := tabOf_ok (by rintro ⟨k, L⟩ h; exact Valid5_spec k L h)
noncomputable abbrev ent_Valid5 : FuncId × List Nat × Tab := (35, [0,1], tab_Valid5)
attribute [go_sem] tab_Valid5_eq
end Go.V

namespace Go.V
open Go.Proofs
set_option maxRecDepth 10000
set_option maxHeartbeats 2000000

def splice (X : List Int) (a : Nat) (ys : List Int) : List Int := X.take a ++ ys ++ X.drop (a + ys.length)
theorem splice_length {X : List Int} {a : Nat} {ys : List Int} (h : a + ys.length ≤ X.length) : (splice X a ys).length = X.length := by simp [splice]; omega
theorem splice_two {X : List Int} {a : Nat} {ys zs : List Int} (h : a + ys.length + zs.length ≤ X.length) : splice (splice X a ys) (a + ys.length) zs = splice X a (ys ++ zs) := by
  have hl : (X.take a ++ ys).length = a + ys.length := by simp; omega
  unfold splice
  rw [← hl, List.take_left, ← List.drop_drop, List.drop_left, List.drop_drop, hl, List.length_append]
  simp only [List.append_assoc, Nat.add_assoc]
theorem splice_set {X : List Int} {a : Nat} (h : a < X.length) (d : Int) : X.set a d = splice X a [d] := by
  unfold splice
  rw [List.set_eq_take_append_cons_drop, if_pos h]
  simp

abbrev HW (X : List Int) : List (Nat × Ob) := [(5000000, .cells 22 [.sl 5000001]), (5000001, .vec 3 1 (lof intP X))]
theorem tellD_spec (X sv : List Int) (a : Nat) (ha : a < X.length) (hs : sv.length ≤ 65536) : FnO Try.prog 77 [.p (natP a), .p (ints sv), .ptr 5000000 0] (HW X) (fun x H => x = .p (.tuple []) ∧ H = HW (splice X a [(sv.length : Int)])) := by
  refine fnO_of (T := []) [5000000, 5000001] [] (N := 10) (RO := []) (CH := []) (KS := [0, 1, 2]) (NS := [5000000, 5000001]) (fun args w => Try.call77 args w) Try.func77 rfl rfl (by simp) mixed (by kernel_rfl) trivial ?_
  simp only [go_sem, ↓reduceIte, Nat.reduceLT, Nat.reduceLeDiff, Nat.reduceEqDiff, Nat.reduceAdd, Nat.reduceSub, Nat.reduceDiv, Nat.reduceMod, Nat.reduceMul, Nat.reduceBEq, Nat.reduceBNe, reduceCtorEq, Int.reduceLT, Int.reduceLE, Int.reduceEq, Int.reduceNe, Int.reduceBEq, Int.reduceBNe, Int.reduceAdd, Int.reduceSub, Int.reduceNeg, Int.reduceToNat]
  refine ⟨ha, ha, _, Le.refl _, rfl, ?_⟩
  rw [← splice_set ha, show HW (X.set a (sv.length : Int)) = [(5000000, .cells 22 [.sl 5000001]), (5000001, .vec 3 1 (lof intP (X.set a (sv.length : Int))))] from rfl, ← lof_set]

abbrev cloD (L : List Int) (n1 n2 n3 : Nat) : AV := .clo 98 [.ptr n3 0, .ptr n1 0, .p (.ref [ints L] 0), .ptr n2 0]
abbrev HD (L : List Int) (at_ : Nat) (X : List Int) : List (Nat × Ob) := [(5000000, .cells 3 [.p (natP at_)]), (5000001, .cells 109 [cloD L 5000000 5000001 5000002]),
  (5000002, .cells 85 [.clo 77 [.ptr 5000003 0]]), (5000003, .cells 22 [.sl 5000004]), (5000004, .vec 3 1 (lof intP X))]
theorem readD_spec (L : List Int) (hL : L.length ≤ 65536) (t : R5.T) : ∀ a at_ sv X rest, a + t.kinds ≤ 8 → L.drop at_ = t.enc a ++ rest → sv.length + t.kinds ≤ 1000 → a + t.kinds ≤ X.length →
    FnO Try.prog 98 [.p (natP a), .p (natP (a + t.kinds - 1)), .p (ints sv), .ptr 5000002 0, .ptr 5000000 0, .p (.ref [ints L] 0), .ptr 5000001 0] (HD L at_ X)
      (fun x H => x = .p (boolP true) ∧ H = HD L (at_ + (t.kinds - 1)) (splice X a (t.dep.map (· + (sv.length : Int))))) := by
  induction t with
  | leaf =>
    intro a at_ sv X rest ha hd hsv hX
    simp only [R5.T.kinds] at ha hsv hX ⊢
    refine fnO_of (T := [ent_within, ent_clip]) [5000000, 5000001, 5000002, 5000003, 5000004] [] (N := 64) (RO := [49]) (CH := []) (KS := [0, 1, 2, 3, 4, 5, 6, 10, 11, 12, 16, 20]) (NS := [2, 50, 5000000, 5000001, 5000002, 5000003, 5000004]) (fun args w => Try.call98 args w) Try.func98 rfl rfl (by simp) mixed (by kernel_rfl) ⟨tab_within_ok, tab_clip_ok, trivial⟩ ?_
    have e : ((a : Int) == ((a + 1 - 1 : Nat) : Int)) = true := by simp
    simp only [go_sem, ↓reduceIte, Nat.reduceLT, Nat.reduceLeDiff, Nat.reduceEqDiff, Nat.reduceAdd, Nat.reduceSub, Nat.reduceDiv, Nat.reduceMod, Nat.reduceMul, Nat.reduceBEq, Nat.reduceBNe, reduceCtorEq, Int.reduceLT, Int.reduceLE, Int.reduceEq, Int.reduceNe, Int.reduceBEq, Int.reduceBNe, Int.reduceAdd, Int.reduceSub, Int.reduceNeg, Int.reduceToNat, e]
    refine vcallO [5000003, 5000004] 10000 (tellD_spec X sv a (by omega) (by omega)) (by first | rfl | (simp only [go_sem, seval, AV.mapN, AV.mapNL, Ob.mapN, mapNL_p, cnx, canH, canH.canH1, lowE, lowH, lowL, lowN, AV.allN, AV.allNL, Ob.allN, allNL_p, okNm, okKey, okH, bkp, bk, bkH, lof_snoc_int, List.getD_cons_zero, List.getD_cons_succ]; first | done | rfl) | (simp [AV.mapN, AV.mapNL, Ob.mapN, mapNL_p, cnx, canH, canH.canH1, St.h, lowE, lowH, lowL, lowN, AV.allN, AV.allNL, Ob.allN, allNL_p, okNm, okKey, okH, bkp, bk, bkH]; done)) (by first | rfl | (simp only [go_sem, seval, AV.mapN, AV.mapNL, Ob.mapN, mapNL_p, cnx, canH, canH.canH1, lowE, lowH, lowL, lowN, AV.allN, AV.allNL, Ob.allN, allNL_p, okNm, okKey, okH, bkp, bk, bkH, lof_snoc_int, List.getD_cons_zero, List.getD_cons_succ]; first | done | rfl) | (simp [AV.mapN, AV.mapNL, Ob.mapN, mapNL_p, cnx, canH, canH.canH1, St.h, lowE, lowH, lowL, lowN, AV.allN, AV.allNL, Ob.allN, allNL_p, okNm, okKey, okH, bkp, bk, bkH]; done)) (by omega) (by first | rfl | (simp only [go_sem, seval, AV.mapN, AV.mapNL, Ob.mapN, mapNL_p, cnx, canH, canH.canH1, lowE, lowH, lowL, lowN, AV.allN, AV.allNL, Ob.allN, allNL_p, okNm, okKey, okH, bkp, bk, bkH, lof_snoc_int, List.getD_cons_zero, List.getD_cons_succ]; first | done | rfl) | (simp [AV.mapN, AV.mapNL, Ob.mapN, mapNL_p, cnx, canH, canH.canH1, St.h, lowE, lowH, lowL, lowN, AV.allN, AV.allNL, Ob.allN, allNL_p, okNm, okKey, okH, bkp, bk, bkH]; done)) ?_
    rintro x H' ⟨rfl, rfl⟩
    refine ⟨(by first | rfl | (simp only [go_sem, seval, AV.mapN, AV.mapNL, Ob.mapN, mapNL_p, cnx, canH, canH.canH1, lowE, lowH, lowL, lowN, AV.allN, AV.allNL, Ob.allN, allNL_p, okNm, okKey, okH, bkp, bk, bkH, lof_snoc_int, List.getD_cons_zero, List.getD_cons_succ]; first | done | rfl) | (simp [AV.mapN, AV.mapNL, Ob.mapN, mapNL_p, cnx, canH, canH.canH1, St.h, lowE, lowH, lowL, lowN, AV.allN, AV.allNL, Ob.allN, allNL_p, okNm, okKey, okH, bkp, bk, bkH]; done)), ?_⟩
    simp only [go_sem, ↓reduceIte, Nat.reduceLT, Nat.reduceLeDiff, Nat.reduceEqDiff, Nat.reduceAdd, Nat.reduceSub, Nat.reduceDiv, Nat.reduceMod, Nat.reduceMul, Nat.reduceBEq, Nat.reduceBNe, reduceCtorEq, Int.reduceLT, Int.reduceLE, Int.reduceEq, Int.reduceNe, Int.reduceBEq, Int.reduceBNe, Int.reduceAdd, Int.reduceSub, Int.reduceNeg, Int.reduceToNat, St.back, AV.mapN, AV.mapNL, Ob.mapN, mapNL_p, bk, bkp, bkH]
    refine ⟨_, Le.refl _, rfl, ?_⟩
    simp only [R5.T.dep, List.map_cons, List.map_nil, Int.zero_add]
  | node l r ihl ihr =>
    intro a at_ sv X rest ha hd hsv hX
    have hl1 := l.kinds_pos; have hr1 := r.kinds_pos
    simp only [R5.T.kinds] at ha hsv hX ⊢
    refine fnO_of (T := [ent_within, ent_clip]) [5000000, 5000001, 5000002, 5000003, 5000004] [] (N := 64) (RO := [49]) (CH := []) (KS := [0, 1, 2, 3, 4, 5, 6, 10, 11, 12, 16, 20]) (NS := [2, 50, 5000000, 5000001, 5000002, 5000003, 5000004]) (fun args w => Try.call98 args w) Try.func98 rfl rfl (by simp) mixed (by kernel_rfl) ⟨tab_within_ok, tab_clip_ok, trivial⟩ ?_
    have e : ((a : Int) == ((a + (l.kinds + r.kinds) - 1 : Nat) : Int)) = false := by rw [beq_eq_false_iff_ne]; omega
    have e2 : ¬ ((a + (l.kinds + r.kinds) - 1 : Nat) : Int) < (a : Int) := by omega
    have hk : L[at_]? = some ((a + l.kinds - 1 : Nat) : Int) := by
      have := congrArg (fun l => l[0]?) hd
      simpa [R5.T.enc] using this
    have hlt := lt_get hk
    have hd1 : L.drop (at_ + 1) = l.enc a ++ (r.enc (a + l.kinds) ++ rest) := by
      have := congrArg (List.drop 1) hd
      simpa [R5.T.enc, List.append_assoc] using this
    have hlen := congrArg List.length hd1
    simp only [List.length_drop, List.length_append, R5.T.enc_length] at hlen
    have hd2 : L.drop (at_ + 1 + (l.kinds - 1)) = r.enc (a + l.kinds) ++ rest := by
      have := congrArg (List.drop (l.kinds - 1)) hd1
      rw [List.drop_drop] at this
      rw [this, ← R5.T.enc_length l a, List.drop_left]
    have e3 : ((at_ : Int) == (L.length : Int)) = false := by rw [beq_eq_false_iff_ne]; omega
    have e4 : inB ((a + l.kinds - 1 : Nat) : Int) a (((a + (l.kinds + r.kinds) - 1 : Nat) : Int) - 1) = true := by unfold inB; simp; omega
    have hdl : (l.dep.map (· + ((sv ++ [((a + l.kinds - 1 : Nat) : Int)]).length : Int))).length = l.kinds := by rw [List.length_map, R5.T.dep_length]
    have hdr : (r.dep.map (· + ((sv ++ [((a + l.kinds - 1 : Nat) : Int)]).length : Int))).length = r.kinds := by rw [List.length_map, R5.T.dep_length]
    have i1 := ihl a (at_ + 1) (sv ++ [((a + l.kinds - 1 : Nat) : Int)]) X _ (by omega) hd1 (by simp; omega) (by omega)
    have i2 := ihr (a + l.kinds) (at_ + 1 + (l.kinds - 1)) (sv ++ [((a + l.kinds - 1 : Nat) : Int)]) (splice X a (l.dep.map (· + ((sv ++ [((a + l.kinds - 1 : Nat) : Int)]).length : Int)))) _ (by omega) hd2 (by simp; omega) (by rw [splice_length (by omega)]; omega)
    have hsp : splice (splice X a (l.dep.map (· + ((sv ++ [((a + l.kinds - 1 : Nat) : Int)]).length : Int)))) (a + l.kinds) (r.dep.map (· + ((sv ++ [((a + l.kinds - 1 : Nat) : Int)]).length : Int))) = splice X a ((R5.T.node l r).dep.map (· + (sv.length : Int))) := by
      have := splice_two (X := X) (a := a) (ys := l.dep.map (· + ((sv ++ [((a + l.kinds - 1 : Nat) : Int)]).length : Int))) (zs := r.dep.map (· + ((sv ++ [((a + l.kinds - 1 : Nat) : Int)]).length : Int))) (by omega)
      rw [hdl] at this
      rw [this, ← List.map_append]
      congr 1
      simp only [R5.T.dep, List.map_map]
      refine List.map_congr_left fun x _ => ?_
      simp; omega
    rw [hsp] at i2
    have ea : (at_ : Int) + 1 = ((at_ + 1 : Nat) : Int) := by push_cast; rfl
    have ei : ((a + l.kinds - 1 : Nat) : Int) + 1 = ((a + l.kinds : Nat) : Int) := by omega
    have eat : at_ + 1 + (l.kinds - 1) + (r.kinds - 1) = at_ + (l.kinds + r.kinds - 1) := by omega
    rw [eat] at i2
    rw [show a + l.kinds + r.kinds - 1 = a + (l.kinds + r.kinds) - 1 by omega] at i2
    generalize splice X a ((R5.T.node l r).dep.map (· + (sv.length : Int))) = X2 at *
    generalize splice X a (l.dep.map (· + ((sv ++ [((a + l.kinds - 1 : Nat) : Int)]).length : Int))) = X1 at *
    simp only [go_sem, ↓reduceIte, Nat.reduceLT, Nat.reduceLeDiff, Nat.reduceEqDiff, Nat.reduceAdd, Nat.reduceSub, Nat.reduceDiv, Nat.reduceMod, Nat.reduceMul, Nat.reduceBEq, Nat.reduceBNe, reduceCtorEq, Int.reduceLT, Int.reduceLE, Int.reduceEq, Int.reduceNe, Int.reduceBEq, Int.reduceBNe, Int.reduceAdd, Int.reduceSub, Int.reduceNeg, Int.reduceToNat, false_and, e, e2, e3, e4, lof_getD hk, lof_snoc_int, ea]
    (repeat with_reducible refine And.intro (by (repeat' with_reducible refine And.intro ?_ ?_) <;> first | with_reducible assumption | omega | (simp only [InK_i64, InK_u64, InK_u8]; omega) | (unfold sz; omega) | exact True.intro) ?_)
    refine vcall_seal (n := 2) rfl rfl ?_
    simp only [go_sem, ↓reduceIte, Nat.reduceLT, Nat.reduceLeDiff, Nat.reduceEqDiff, Nat.reduceAdd, Nat.reduceSub, Nat.reduceDiv, Nat.reduceMod, Nat.reduceMul, Nat.reduceBEq, Nat.reduceBNe, reduceCtorEq, Int.reduceLT, Int.reduceLE, Int.reduceEq, Int.reduceNe, Int.reduceBEq, Int.reduceBNe, Int.reduceAdd, Int.reduceSub, Int.reduceNeg, Int.reduceToNat]
    refine vcallO [5000000, 5000001, 5000002, 5000003, 5000004] 10000 i1 (by first | rfl | (simp only [go_sem, seval, AV.mapN, AV.mapNL, Ob.mapN, mapNL_p, cnx, canH, canH.canH1, lowE, lowH, lowL, lowN, AV.allN, AV.allNL, Ob.allN, allNL_p, okNm, okKey, okH, bkp, bk, bkH, lof_snoc_int, List.getD_cons_zero, List.getD_cons_succ]; first | done | rfl) | (simp [AV.mapN, AV.mapNL, Ob.mapN, mapNL_p, cnx, canH, canH.canH1, St.h, lowE, lowH, lowL, lowN, AV.allN, AV.allNL, Ob.allN, allNL_p, okNm, okKey, okH, bkp, bk, bkH]; done)) (by first | rfl | (simp only [go_sem, seval, AV.mapN, AV.mapNL, Ob.mapN, mapNL_p, cnx, canH, canH.canH1, lowE, lowH, lowL, lowN, AV.allN, AV.allNL, Ob.allN, allNL_p, okNm, okKey, okH, bkp, bk, bkH, lof_snoc_int, List.getD_cons_zero, List.getD_cons_succ]; first | done | rfl) | (simp [AV.mapN, AV.mapNL, Ob.mapN, mapNL_p, cnx, canH, canH.canH1, St.h, lowE, lowH, lowL, lowN, AV.allN, AV.allNL, Ob.allN, allNL_p, okNm, okKey, okH, bkp, bk, bkH]; done)) (by omega) (by first | rfl | (simp only [go_sem, seval, AV.mapN, AV.mapNL, Ob.mapN, mapNL_p, cnx, canH, canH.canH1, lowE, lowH, lowL, lowN, AV.allN, AV.allNL, Ob.allN, allNL_p, okNm, okKey, okH, bkp, bk, bkH, lof_snoc_int, List.getD_cons_zero, List.getD_cons_succ]; first | done | rfl) | (simp [AV.mapN, AV.mapNL, Ob.mapN, mapNL_p, cnx, canH, canH.canH1, St.h, lowE, lowH, lowL, lowN, AV.allN, AV.allNL, Ob.allN, allNL_p, okNm, okKey, okH, bkp, bk, bkH]; done)) ?_
    rintro x H' ⟨rfl, rfl⟩
    refine ⟨(by first | rfl | (simp only [go_sem, seval, AV.mapN, AV.mapNL, Ob.mapN, mapNL_p, cnx, canH, canH.canH1, lowE, lowH, lowL, lowN, AV.allN, AV.allNL, Ob.allN, allNL_p, okNm, okKey, okH, bkp, bk, bkH, lof_snoc_int, List.getD_cons_zero, List.getD_cons_succ]; first | done | rfl) | (simp [AV.mapN, AV.mapNL, Ob.mapN, mapNL_p, cnx, canH, canH.canH1, St.h, lowE, lowH, lowL, lowN, AV.allN, AV.allNL, Ob.allN, allNL_p, okNm, okKey, okH, bkp, bk, bkH]; done)), ?_⟩
    simp only [go_sem, ↓reduceIte, Nat.reduceLT, Nat.reduceLeDiff, Nat.reduceEqDiff, Nat.reduceAdd, Nat.reduceSub, Nat.reduceDiv, Nat.reduceMod, Nat.reduceMul, Nat.reduceBEq, Nat.reduceBNe, reduceCtorEq, Int.reduceLT, Int.reduceLE, Int.reduceEq, Int.reduceNe, Int.reduceBEq, Int.reduceBNe, Int.reduceAdd, Int.reduceSub, Int.reduceNeg, Int.reduceToNat, St.back, AV.mapN, AV.mapNL, Ob.mapN, mapNL_p, bk, bkp, bkH, ei]
    (repeat with_reducible refine And.intro (by (repeat' with_reducible refine And.intro ?_ ?_) <;> first | with_reducible assumption | omega | (simp only [InK_i64, InK_u64, InK_u8]; omega) | (unfold sz; omega) | exact True.intro) ?_)
    refine vcallO [5000000, 5000001, 5000002, 5000003, 5000004] 20000 i2 (by first | rfl | (simp only [go_sem, seval, AV.mapN, AV.mapNL, Ob.mapN, mapNL_p, cnx, canH, canH.canH1, lowE, lowH, lowL, lowN, AV.allN, AV.allNL, Ob.allN, allNL_p, okNm, okKey, okH, bkp, bk, bkH, lof_snoc_int, List.getD_cons_zero, List.getD_cons_succ]; first | done | rfl) | (simp [AV.mapN, AV.mapNL, Ob.mapN, mapNL_p, cnx, canH, canH.canH1, St.h, lowE, lowH, lowL, lowN, AV.allN, AV.allNL, Ob.allN, allNL_p, okNm, okKey, okH, bkp, bk, bkH]; done)) (by first | rfl | (simp only [go_sem, seval, AV.mapN, AV.mapNL, Ob.mapN, mapNL_p, cnx, canH, canH.canH1, lowE, lowH, lowL, lowN, AV.allN, AV.allNL, Ob.allN, allNL_p, okNm, okKey, okH, bkp, bk, bkH, lof_snoc_int, List.getD_cons_zero, List.getD_cons_succ]; first | done | rfl) | (simp [AV.mapN, AV.mapNL, Ob.mapN, mapNL_p, cnx, canH, canH.canH1, St.h, lowE, lowH, lowL, lowN, AV.allN, AV.allNL, Ob.allN, allNL_p, okNm, okKey, okH, bkp, bk, bkH]; done)) (by omega) (by first | rfl | (simp only [go_sem, seval, AV.mapN, AV.mapNL, Ob.mapN, mapNL_p, cnx, canH, canH.canH1, lowE, lowH, lowL, lowN, AV.allN, AV.allNL, Ob.allN, allNL_p, okNm, okKey, okH, bkp, bk, bkH, lof_snoc_int, List.getD_cons_zero, List.getD_cons_succ]; first | done | rfl) | (simp [AV.mapN, AV.mapNL, Ob.mapN, mapNL_p, cnx, canH, canH.canH1, St.h, lowE, lowH, lowL, lowN, AV.allN, AV.allNL, Ob.allN, allNL_p, okNm, okKey, okH, bkp, bk, bkH]; done)) ?_
    rintro x H' ⟨rfl, rfl⟩
    refine ⟨(by first | rfl | (simp only [go_sem, seval, AV.mapN, AV.mapNL, Ob.mapN, mapNL_p, cnx, canH, canH.canH1, lowE, lowH, lowL, lowN, AV.allN, AV.allNL, Ob.allN, allNL_p, okNm, okKey, okH, bkp, bk, bkH, lof_snoc_int, List.getD_cons_zero, List.getD_cons_succ]; first | done | rfl) | (simp [AV.mapN, AV.mapNL, Ob.mapN, mapNL_p, cnx, canH, canH.canH1, St.h, lowE, lowH, lowL, lowN, AV.allN, AV.allNL, Ob.allN, allNL_p, okNm, okKey, okH, bkp, bk, bkH]; done)), ?_⟩
    simp only [go_sem, ↓reduceIte, Nat.reduceLT, Nat.reduceLeDiff, Nat.reduceEqDiff, Nat.reduceAdd, Nat.reduceSub, Nat.reduceDiv, Nat.reduceMod, Nat.reduceMul, Nat.reduceBEq, Nat.reduceBNe, reduceCtorEq, Int.reduceLT, Int.reduceLE, Int.reduceEq, Int.reduceNe, Int.reduceBEq, Int.reduceBNe, Int.reduceAdd, Int.reduceSub, Int.reduceNeg, Int.reduceToNat, St.back, AV.mapN, AV.mapNL, Ob.mapN, mapNL_p, bk, bkp, bkH]
    exact ⟨_, Le.refl _, rfl⟩

/-- the depths of a list -/
def depthsV (k : Int) (L : List Int) : List Int := if validE k L = 0 then (R5.treeOf k.toNat L).dep else []
theorem valid_tree {n : Nat} {L : List Int} (h1 : 1 ≤ n) (hv : R5.validB n L = true) : (R5.treeOf n L).kinds = n ∧ L = (R5.treeOf n L).enc 0 := by
  obtain ⟨t, ht, he⟩ := (R5.valid_iff h1 L).1 hv
  subst ht he
  rw [R5.treeOf_enc]; exact ⟨rfl, rfl⟩
theorem validE_zero {k : Int} {L : List Int} : validE k L = 0 ↔ ∃ n : Nat, k = n ∧ 1 ≤ n ∧ n ≤ 8 ∧ R5.validB n L = true := by
  unfold validE
  constructor
  · intro h
    by_cases h1 : 1 ≤ k ∧ k ≤ 8
    · rw [if_pos h1] at h
      refine ⟨k.toNat, by omega, by omega, by omega, ?_⟩
      by_cases h2 : R5.validB k.toNat L = true
      · exact h2
      · rw [if_neg h2] at h; cases h
    · rw [if_neg h1] at h; cases h
  · rintro ⟨n, rfl, h1, h2, h3⟩
    rw [if_pos (by omega), Int.toNat_natCast, if_pos h3]

theorem readDF_spec (t : R5.T) (X : List Int) (h8 : t.kinds ≤ 8) (hX : X.length = t.kinds) :
    FnO Try.prog 74 [.p (natP t.kinds), .p (ints (t.enc 0)), .clo 77 [.ptr 5000000 0]] (HW X) (fun x H => x = .p (boolP true) ∧ H = HW t.dep) := by
  have h1 := t.kinds_pos
  have hlen := t.enc_length 0
  have hr := readD_spec (t.enc 0) (by omega) t 0 0 [] X [] (by omega) (by rw [List.drop_zero, List.append_nil]) (by simp; omega) (by omega)
  have eq : natP (0 + t.kinds - 1) = intP ((t.kinds : Int) - 1) := by unfold natP intP; congr 2; omega
  have esp : splice X 0 (t.dep.map (· + (([] : List Int).length : Int))) = t.dep := by
    unfold splice
    rw [List.take_zero, List.drop_of_length_le (by simp [R5.T.dep_length]; omega), List.append_nil, List.nil_append]
    simp
  rw [eq, esp, Nat.zero_add] at hr
  refine fnO_of (T := []) [5000000, 5000001] [] (N := 20) (RO := [4]) (CH := []) (KS := [0, 1, 2, 4, 5, 6, 7, 8]) (NS := [5, 7, 8, 5000000, 5000001]) (fun args w => Try.call74 args w) Try.func74 rfl rfl (by simp) mixed (by kernel_rfl) trivial ?_
  simp only [go_sem, ↓reduceIte, Nat.reduceLT, Nat.reduceLeDiff, Nat.reduceEqDiff, Nat.reduceAdd, Nat.reduceSub, Nat.reduceDiv, Nat.reduceMod, Nat.reduceMul, Nat.reduceBEq, Nat.reduceBNe, reduceCtorEq, Int.reduceLT, Int.reduceLE, Int.reduceEq, Int.reduceNe, Int.reduceBEq, Int.reduceBNe, Int.reduceAdd, Int.reduceSub, Int.reduceNeg, Int.reduceToNat]
  refine ⟨by rw [InK_i64]; omega, ?_⟩
  refine vcallO [7, 8, 5, 5000000, 5000001] 10000 (hr.le (.eq _ (.eq _ (.le le_nil_ints (.eq _ (.eq _ (.eq _ (.eq _ .nil)))))))) (by first | rfl | (simp only [go_sem, seval, AV.mapN, AV.mapNL, Ob.mapN, mapNL_p, cnx, canH, canH.canH1, lowE, lowH, lowL, lowN, AV.allN, AV.allNL, Ob.allN, allNL_p, okNm, okKey, okH, bkp, bk, bkH, lof_snoc_int, List.getD_cons_zero, List.getD_cons_succ]; first | done | rfl) | (simp [AV.mapN, AV.mapNL, Ob.mapN, mapNL_p, cnx, canH, canH.canH1, St.h, lowE, lowH, lowL, lowN, AV.allN, AV.allNL, Ob.allN, allNL_p, okNm, okKey, okH, bkp, bk, bkH]; done)) (by first | rfl | (simp only [go_sem, seval, AV.mapN, AV.mapNL, Ob.mapN, mapNL_p, cnx, canH, canH.canH1, lowE, lowH, lowL, lowN, AV.allN, AV.allNL, Ob.allN, allNL_p, okNm, okKey, okH, bkp, bk, bkH, lof_snoc_int, List.getD_cons_zero, List.getD_cons_succ]; first | done | rfl) | (simp [AV.mapN, AV.mapNL, Ob.mapN, mapNL_p, cnx, canH, canH.canH1, St.h, lowE, lowH, lowL, lowN, AV.allN, AV.allNL, Ob.allN, allNL_p, okNm, okKey, okH, bkp, bk, bkH]; done)) (by omega) (by first | rfl | (simp only [go_sem, seval, AV.mapN, AV.mapNL, Ob.mapN, mapNL_p, cnx, canH, canH.canH1, lowE, lowH, lowL, lowN, AV.allN, AV.allNL, Ob.allN, allNL_p, okNm, okKey, okH, bkp, bk, bkH, lof_snoc_int, List.getD_cons_zero, List.getD_cons_succ]; first | done | rfl) | (simp [AV.mapN, AV.mapNL, Ob.mapN, mapNL_p, cnx, canH, canH.canH1, St.h, lowE, lowH, lowL, lowN, AV.allN, AV.allNL, Ob.allN, allNL_p, okNm, okKey, okH, bkp, bk, bkH]; done)) ?_
  rintro x H' ⟨rfl, rfl⟩
  refine ⟨(by first | rfl | (simp only [go_sem, seval, AV.mapN, AV.mapNL, Ob.mapN, mapNL_p, cnx, canH, canH.canH1, lowE, lowH, lowL, lowN, AV.allN, AV.allNL, Ob.allN, allNL_p, okNm, okKey, okH, bkp, bk, bkH, lof_snoc_int, List.getD_cons_zero, List.getD_cons_succ]; first | done | rfl) | (simp [AV.mapN, AV.mapNL, Ob.mapN, mapNL_p, cnx, canH, canH.canH1, St.h, lowE, lowH, lowL, lowN, AV.allN, AV.allNL, Ob.allN, allNL_p, okNm, okKey, okH, bkp, bk, bkH]; done)), ?_⟩
  have e : (((t.kinds - 1 : Nat) : Int) == ((t.enc 0).length : Int)) = true := by rw [hlen]; simp
  simp only [go_sem, ↓reduceIte, Nat.reduceLT, Nat.reduceLeDiff, Nat.reduceEqDiff, Nat.reduceAdd, Nat.reduceSub, Nat.reduceDiv, Nat.reduceMod, Nat.reduceMul, Nat.reduceBEq, Nat.reduceBNe, reduceCtorEq, Int.reduceLT, Int.reduceLE, Int.reduceEq, Int.reduceNe, Int.reduceBEq, Int.reduceBNe, Int.reduceAdd, Int.reduceSub, Int.reduceNeg, Int.reduceToNat, St.back, AV.mapN, AV.mapNL, Ob.mapN, mapNL_p, bk, bkp, bkH, e]
  exact ⟨_, Le.refl _, rfl⟩

theorem Depths5_spec (k : Int) (L : List Int) (hpre : L.length ≤ 65536) : Ret Try.prog 37 [intP k, ints L] (.tuple [ints (depthsV k L), errP (validE k L)]) := by
  refine fn_of (T := [ent_Valid5]) (N := 21) (RO := [7]) (CH := []) (KS := [0, 1, 4, 5, 6, 7, 12]) (NS := [4, 7, 15]) (fun args w => Try.call37 args w) Try.func37 rfl rfl (by simp) mixed (by kernel_rfl) ⟨tab_Valid5_ok, trivial⟩ ?_
  simp only [go_sem, ↓reduceIte, Nat.reduceLT, Nat.reduceLeDiff, Nat.reduceEqDiff, Nat.reduceAdd, Nat.reduceSub, Nat.reduceDiv, Nat.reduceMod, Nat.reduceMul, Nat.reduceBEq, Nat.reduceBNe, reduceCtorEq, Int.reduceLT, Int.reduceLE, Int.reduceEq, Int.reduceNe, Int.reduceBEq, Int.reduceBNe, Int.reduceAdd, Int.reduceSub, Int.reduceNeg, Int.reduceToNat]
  refine ⟨hpre, ?_⟩
  by_cases h : validE k L = 0
  · obtain ⟨n, rfl, h1, h8, hv⟩ := validE_zero.1 h
    obtain ⟨hk, hL⟩ := valid_tree h1 hv
    simp only [go_sem, ↓reduceIte, Nat.reduceLT, Nat.reduceLeDiff, Nat.reduceEqDiff, Nat.reduceAdd, Nat.reduceSub, Nat.reduceDiv, Nat.reduceMod, Nat.reduceMul, Nat.reduceBEq, Nat.reduceBNe, reduceCtorEq, Int.reduceLT, Int.reduceLE, Int.reduceEq, Int.reduceNe, Int.reduceBEq, Int.reduceBNe, Int.reduceAdd, Int.reduceSub, Int.reduceNeg, Int.reduceToNat, h, bne_self_eq_false]
    refine ⟨by omega, ?_⟩
    have hX : (List.replicate n (0 : Int)).length = (R5.treeOf n L).kinds := by rw [List.length_replicate, hk]
    have hr := readDF_spec (R5.treeOf n L) (List.replicate n 0) (by omega) hX
    rw [← hL, hk] at hr
    have er : List.replicate n (PV.val (Value.int .i64 0)) = lof intP (List.replicate n (0 : Int)) := by unfold lof; rw [List.map_replicate]
    rw [er]
    refine vcallO [7, 15] 10000 hr (by first | rfl | (simp only [go_sem, seval, AV.mapN, AV.mapNL, Ob.mapN, mapNL_p, cnx, canH, canH.canH1, lowE, lowH, lowL, lowN, AV.allN, AV.allNL, Ob.allN, allNL_p, okNm, okKey, okH, bkp, bk, bkH, lof_snoc_int, List.getD_cons_zero, List.getD_cons_succ]; first | done | rfl) | (simp [AV.mapN, AV.mapNL, Ob.mapN, mapNL_p, cnx, canH, canH.canH1, St.h, lowE, lowH, lowL, lowN, AV.allN, AV.allNL, Ob.allN, allNL_p, okNm, okKey, okH, bkp, bk, bkH]; done)) (by first | rfl | (simp only [go_sem, seval, AV.mapN, AV.mapNL, Ob.mapN, mapNL_p, cnx, canH, canH.canH1, lowE, lowH, lowL, lowN, AV.allN, AV.allNL, Ob.allN, allNL_p, okNm, okKey, okH, bkp, bk, bkH, lof_snoc_int, List.getD_cons_zero, List.getD_cons_succ]; first | done | rfl) | (simp [AV.mapN, AV.mapNL, Ob.mapN, mapNL_p, cnx, canH, canH.canH1, St.h, lowE, lowH, lowL, lowN, AV.allN, AV.allNL, Ob.allN, allNL_p, okNm, okKey, okH, bkp, bk, bkH]; done)) (by omega) (by first | rfl | (simp only [go_sem, seval, AV.mapN, AV.mapNL, Ob.mapN, mapNL_p, cnx, canH, canH.canH1, lowE, lowH, lowL, lowN, AV.allN, AV.allNL, Ob.allN, allNL_p, okNm, okKey, okH, bkp, bk, bkH, lof_snoc_int, List.getD_cons_zero, List.getD_cons_succ]; first | done | rfl) | (simp [AV.mapN, AV.mapNL, Ob.mapN, mapNL_p, cnx, canH, canH.canH1, St.h, lowE, lowH, lowL, lowN, AV.allN, AV.allNL, Ob.allN, allNL_p, okNm, okKey, okH, bkp, bk, bkH]; done)) ?_
    rintro x H' ⟨rfl, rfl⟩
    refine ⟨(by first | rfl | (simp only [go_sem, seval, AV.mapN, AV.mapNL, Ob.mapN, mapNL_p, cnx, canH, canH.canH1, lowE, lowH, lowL, lowN, AV.allN, AV.allNL, Ob.allN, allNL_p, okNm, okKey, okH, bkp, bk, bkH, lof_snoc_int, List.getD_cons_zero, List.getD_cons_succ]; first | done | rfl) | (simp [AV.mapN, AV.mapNL, Ob.mapN, mapNL_p, cnx, canH, canH.canH1, St.h, lowE, lowH, lowL, lowN, AV.allN, AV.allNL, Ob.allN, allNL_p, okNm, okKey, okH, bkp, bk, bkH]; done)), ?_⟩
    simp only [go_sem, ↓reduceIte, Nat.reduceLT, Nat.reduceLeDiff, Nat.reduceEqDiff, Nat.reduceAdd, Nat.reduceSub, Nat.reduceDiv, Nat.reduceMod, Nat.reduceMul, Nat.reduceBEq, Nat.reduceBNe, reduceCtorEq, Int.reduceLT, Int.reduceLE, Int.reduceEq, Int.reduceNe, Int.reduceBEq, Int.reduceBNe, Int.reduceAdd, Int.reduceSub, Int.reduceNeg, Int.reduceToNat, St.back, AV.mapN, AV.mapNL, Ob.mapN, mapNL_p, bk, bkp, bkH]
    unfold depthsV
    rw [if_pos h, Int.toNat_natCast]
    exact ex_le_refl rfl
  · have hn : (validE k L != 0) = true := by simp [h]
    simp only [go_sem, ↓reduceIte, Nat.reduceLT, Nat.reduceLeDiff, Nat.reduceEqDiff, Nat.reduceAdd, Nat.reduceSub, Nat.reduceDiv, Nat.reduceMod, Nat.reduceMul, Nat.reduceBEq, Nat.reduceBNe, reduceCtorEq, Int.reduceLT, Int.reduceLE, Int.reduceEq, Int.reduceNe, Int.reduceBEq, Int.reduceBNe, Int.reduceAdd, Int.reduceSub, Int.reduceNeg, Int.reduceToNat, hn]
    unfold depthsV
    rw [if_neg h]
    refine ex_le ?_
    (repeat' (first | exact Le.refl _ | exact Le.nilS _ _ | exact Le.tight | refine Le.tuple ?_ | refine Le.list ?_ | refine Le.agg ?_ | refine LeL.cons ?_ ?_ | exact LeL.nil))
noncomputable def tab_Depths5 : Tab := tabOf (fun p : (Int) × (List Int) => match p with | (k, L) => [intP k, ints L]) (fun p : (Int) × (List Int) => match p with | (k, L) => L.length ≤ 65536) (fun p : (Int) × (List Int) => match p with | (k, L) => .tuple [ints (depthsV k L), errP (validE k L)])
theorem tab_Depths5_eq (k : Int) (L : List Int) : tab_Depths5 [intP k, ints L] = some (L.length ≤ 65536, .p (.tuple [ints (depthsV k L), errP (validE k L)])) := tabOf_eq (enc := fun p : (Int) × (List Int) => match p with | (k, L) => [intP k, ints L]) (pre := fun p : (Int) × (List Int) => match p with | (k, L) => L.length ≤ 65536) (out := fun p : (Int) × (List Int) => match p with | (k, L) => .tuple [ints (depthsV k L), errP (validE k L)]) (by rintro ⟨k, L⟩ ⟨k', L'⟩ h; simp at h; first | (simp [h]; done) | omega | (simp [h]; omega)) (k, L)
theorem tab_Depths5_ok : TabOK Try.prog 37 tab_Depths5 := tabOf_ok (by rintro ⟨k, L⟩ h; exact Depths5_spec k L h)
noncomputable abbrev ent_Depths5 : FuncId × List Nat × Tab := (37, [0,1], tab_Depths5)
attribute [go_sem] tab_Depths5_eq
end Go.V
