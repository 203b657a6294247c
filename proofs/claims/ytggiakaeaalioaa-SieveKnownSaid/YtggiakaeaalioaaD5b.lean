/-
  Contracts of the program of chapter 05: the best trees. Conditions: none.
-/
import Derived.Test.YtggiakaeaalioaaD5a
import Derived.Test.YtggiakaeaalioaaC5c
set_option linter.unusedVariables false
set_option linter.unusedSimpArgs false
set_option linter.deprecated false
namespace Go.V
open Go.Proofs
set_option maxRecDepth 10000
set_option maxHeartbeats 2000000

theorem zero_cells (n : Nat) (hn : n = 320) : (List.replicate n (Value.int .i64 0)).map (fun v => AV.p (.val v)) = (spT fun _ _ => R5.Sp.zero).map .p := by subst hn; rfl
theorem zero_one (n : Nat) : (List.replicate n (Value.int .i64 0)).all (·.oneCell') = true := by
  rw [List.all_eq_true]; intro x hx; obtain ⟨_, rfl⟩ := List.mem_replicate.1 hx; rfl

theorem known_spec (L : List Int) (hpre : LoadsOK' L) : Ret Try.prog 63 [ints L] (.ref (spT (tabW L)) 0) := by
  refine fn_of (T := []) (N := 8) (RO := [1]) (CH := []) (KS := [0, 1, 2, 3]) (NS := [2, 3]) (fun args w => Try.call63 args w) Try.func63 rfl rfl (by simp) mixed (by kernel_rfl) trivial ?_
  simp only [go_sem, ↓reduceIte, Nat.reduceLT, Nat.reduceLeDiff, Nat.reduceEqDiff, Nat.reduceAdd, Nat.reduceSub, Nat.reduceDiv, Nat.reduceMod, Nat.reduceMul, Nat.reduceBEq, Nat.reduceBNe, reduceCtorEq, Int.reduceLT, Int.reduceLE, Int.reduceEq, Int.reduceNe, Int.reduceBEq, Int.reduceBNe, Int.reduceAdd, Int.reduceSub, Int.reduceNeg, Int.reduceToNat, zero_one, zero_cells]
  refine vcallO [3] 10000 (fill_spec L hpre) (by first | rfl | (simp only [go_sem, ↓reduceIte, Nat.reduceLT, Nat.reduceLeDiff, Nat.reduceEqDiff, Nat.reduceAdd, Nat.reduceSub, Nat.reduceDiv, Nat.reduceMod, Nat.reduceMul, Nat.reduceBEq, Nat.reduceBNe, reduceCtorEq, Int.reduceLT, Int.reduceLE, Int.reduceEq, Int.reduceNe, Int.reduceBEq, Int.reduceBNe, Int.reduceAdd, Int.reduceSub, Int.reduceNeg, Int.reduceToNat, AV.mapN, AV.mapNL, Ob.mapN, mapNL_p, cnx, canH, canH.canH1, lowE, lowH, lowL, lowN, AV.allN, AV.allNL, Ob.allN, allNL_p, okNm, okKey, okH, bkp, bk, bkH, lof_snoc_int, List.getD_cons_zero, List.getD_cons_succ]; first | done | rfl) | (simp [AV.mapN, AV.mapNL, Ob.mapN, mapNL_p, cnx, canH, canH.canH1, St.h, lowE, lowH, lowL, lowN, AV.allN, AV.allNL, Ob.allN, allNL_p, okNm, okKey, okH, bkp, bk, bkH]; done)) (by first | rfl | (simp only [go_sem, ↓reduceIte, Nat.reduceLT, Nat.reduceLeDiff, Nat.reduceEqDiff, Nat.reduceAdd, Nat.reduceSub, Nat.reduceDiv, Nat.reduceMod, Nat.reduceMul, Nat.reduceBEq, Nat.reduceBNe, reduceCtorEq, Int.reduceLT, Int.reduceLE, Int.reduceEq, Int.reduceNe, Int.reduceBEq, Int.reduceBNe, Int.reduceAdd, Int.reduceSub, Int.reduceNeg, Int.reduceToNat, AV.mapN, AV.mapNL, Ob.mapN, mapNL_p, cnx, canH, canH.canH1, lowE, lowH, lowL, lowN, AV.allN, AV.allNL, Ob.allN, allNL_p, okNm, okKey, okH, bkp, bk, bkH, lof_snoc_int, List.getD_cons_zero, List.getD_cons_succ]; first | done | rfl) | (simp [AV.mapN, AV.mapNL, Ob.mapN, mapNL_p, cnx, canH, canH.canH1, St.h, lowE, lowH, lowL, lowN, AV.allN, AV.allNL, Ob.allN, allNL_p, okNm, okKey, okH, bkp, bk, bkH]; done)) (by omega) (by first | rfl | (simp only [go_sem, ↓reduceIte, Nat.reduceLT, Nat.reduceLeDiff, Nat.reduceEqDiff, Nat.reduceAdd, Nat.reduceSub, Nat.reduceDiv, Nat.reduceMod, Nat.reduceMul, Nat.reduceBEq, Nat.reduceBNe, reduceCtorEq, Int.reduceLT, Int.reduceLE, Int.reduceEq, Int.reduceNe, Int.reduceBEq, Int.reduceBNe, Int.reduceAdd, Int.reduceSub, Int.reduceNeg, Int.reduceToNat, AV.mapN, AV.mapNL, Ob.mapN, mapNL_p, cnx, canH, canH.canH1, lowE, lowH, lowL, lowN, AV.allN, AV.allNL, Ob.allN, allNL_p, okNm, okKey, okH, bkp, bk, bkH, lof_snoc_int, List.getD_cons_zero, List.getD_cons_succ]; first | done | rfl) | (simp [AV.mapN, AV.mapNL, Ob.mapN, mapNL_p, cnx, canH, canH.canH1, St.h, lowE, lowH, lowL, lowN, AV.allN, AV.allNL, Ob.allN, allNL_p, okNm, okKey, okH, bkp, bk, bkH]; done)) ?_
  rintro x H' ⟨rfl, rfl⟩
  refine ⟨(by first | rfl | (simp only [go_sem, ↓reduceIte, Nat.reduceLT, Nat.reduceLeDiff, Nat.reduceEqDiff, Nat.reduceAdd, Nat.reduceSub, Nat.reduceDiv, Nat.reduceMod, Nat.reduceMul, Nat.reduceBEq, Nat.reduceBNe, reduceCtorEq, Int.reduceLT, Int.reduceLE, Int.reduceEq, Int.reduceNe, Int.reduceBEq, Int.reduceBNe, Int.reduceAdd, Int.reduceSub, Int.reduceNeg, Int.reduceToNat, AV.mapN, AV.mapNL, Ob.mapN, mapNL_p, cnx, canH, canH.canH1, lowE, lowH, lowL, lowN, AV.allN, AV.allNL, Ob.allN, allNL_p, okNm, okKey, okH, bkp, bk, bkH, lof_snoc_int, List.getD_cons_zero, List.getD_cons_succ]; first | done | rfl) | (simp [AV.mapN, AV.mapNL, Ob.mapN, mapNL_p, cnx, canH, canH.canH1, St.h, lowE, lowH, lowL, lowN, AV.allN, AV.allNL, Ob.allN, allNL_p, okNm, okKey, okH, bkp, bk, bkH]; done)), ?_⟩
  simp only [go_sem, ↓reduceIte, Nat.reduceLT, Nat.reduceLeDiff, Nat.reduceEqDiff, Nat.reduceAdd, Nat.reduceSub, Nat.reduceDiv, Nat.reduceMod, Nat.reduceMul, Nat.reduceBEq, Nat.reduceBNe, reduceCtorEq, Int.reduceLT, Int.reduceLE, Int.reduceEq, Int.reduceNe, Int.reduceBEq, Int.reduceBNe, Int.reduceAdd, Int.reduceSub, Int.reduceNeg, Int.reduceToNat, St.back, AV.mapN, AV.mapNL, Ob.mapN, mapNL_p, bk, bkp, bkH, pvs_map]
  exact ex_le_refl rfl
noncomputable def tab_known : Tab := tabOf (fun p : (List Int) => match p with | L => [ints L]) (fun p : (List Int) => match p with | L => LoadsOK' L) (fun p : (List Int) => match p with | L => .ref (spT (tabW L)) 0)
theorem tab_known_eq (L : List Int) : tab_known [ints L] = some (LoadsOK' L, .p (.ref (spT (tabW L)) 0)) := tabOf_eq (enc := fun p : (List Int) => match p with | L => [ints L]) (pre := fun p : (List Int) => match p with | L => LoadsOK' L) (out := fun p : (List Int) => match p with | L => .ref (spT (tabW L)) 0) (by rintro L L' h; simp at h; first | (simp [h]; done) | omega | (simp [h]; omega)) (L)
theorem tab_known_ok : TabOK Try.prog 63 tab_known := tabOf_ok (by rintro L h; exact known_spec L h)
noncomputable abbrev ent_known : FuncId × List Nat × Tab := (63, [1], tab_known)
attribute [go_sem] tab_known_eq

/-- what is known of all kinds -/
def wholeV (L : List Int) : R5.Sp := if checkL L = 0 then R5.spanOf L 0 (L.length - 1) else R5.Sp.zero
theorem loads_ok' {L : List Int} (h : checkL L = 0) : LoadsOK' L := ⟨(loads_ok h).hi, (loads_ok h).ld⟩

theorem whole_spec (L : List Int) (hpre : sz L.length) : Ret Try.prog 66 [ints L] (.tuple [.agg (spP (wholeV L)), errP (checkL L)]) := by
  refine fn_of (T := [ent_check5, ent_known]) (N := 20) (RO := []) (CH := []) (KS := [0, 2, 3, 4, 8]) (NS := [2]) (fun args w => Try.call66 args w) Try.func66 rfl rfl (by simp) mixed (by kernel_rfl) ⟨tab_check5_ok, tab_known_ok, trivial⟩ ?_
  simp only [go_sem, ↓reduceIte, Nat.reduceLT, Nat.reduceLeDiff, Nat.reduceEqDiff, Nat.reduceAdd, Nat.reduceSub, Nat.reduceDiv, Nat.reduceMod, Nat.reduceMul, Nat.reduceBEq, Nat.reduceBNe, reduceCtorEq, Int.reduceLT, Int.reduceLE, Int.reduceEq, Int.reduceNe, Int.reduceBEq, Int.reduceBNe, Int.reduceAdd, Int.reduceSub, Int.reduceNeg, Int.reduceToNat]
  refine ⟨hpre, ?_⟩
  by_cases h : checkL L = 0
  · have hL := loads_ok h
    have h1 := hL.lo; have h8 := hL.hi
    have hw : tabW L 0 (L.length - 1) = wholeV L := by unfold tabW wholeV; rw [if_pos ⟨by omega, by omega⟩, if_pos h]
    have hl : (spT (tabW L)).length = 320 := cellsT_length fun x y => spP_length _
    have en : ((L.length : Int) - 1).toNat = L.length - 1 := by omega
    have g : ((spT (tabW L)).drop ((L.length - 1) * 5)).take 5 = spP (wholeV L) := by rw [← hw]; exact cellsT_take (fun x y => spP_length _) (by omega) (by omega) (by omega)
    simp only [go_sem, ↓reduceIte, Nat.reduceLT, Nat.reduceLeDiff, Nat.reduceEqDiff, Nat.reduceAdd, Nat.reduceSub, Nat.reduceDiv, Nat.reduceMod, Nat.reduceMul, Nat.reduceBEq, Nat.reduceBNe, reduceCtorEq, Int.reduceLT, Int.reduceLE, Int.reduceEq, Int.reduceNe, Int.reduceBEq, Int.reduceBNe, Int.reduceAdd, Int.reduceSub, Int.reduceNeg, Int.reduceToNat, h, bne_self_eq_false, hL, loads_ok' h, en, hl]
    (repeat with_reducible refine And.intro (by (repeat' with_reducible refine And.intro ?_ ?_) <;> first | with_reducible assumption | omega | (rw [InK_i64]; omega) | (rw [InK_u64]; omega) | (rw [InK_u8]; omega) | (unfold sz; omega) | exact True.intro) ?_)
    rw [g]
    simp only [go_sem, ↓reduceIte, Nat.reduceLT, Nat.reduceLeDiff, Nat.reduceEqDiff, Nat.reduceAdd, Nat.reduceSub, Nat.reduceDiv, Nat.reduceMod, Nat.reduceMul, Nat.reduceBEq, Nat.reduceBNe, reduceCtorEq, Int.reduceLT, Int.reduceLE, Int.reduceEq, Int.reduceNe, Int.reduceBEq, Int.reduceBNe, Int.reduceAdd, Int.reduceSub, Int.reduceNeg, Int.reduceToNat, spP]
    (repeat with_reducible refine And.intro (by (repeat' with_reducible refine And.intro ?_ ?_) <;> first | with_reducible assumption | omega | (rw [InK_i64]; omega) | (rw [InK_u64]; omega) | (rw [InK_u8]; omega) | (unfold sz; omega) | exact True.intro) ?_)
    exact ex_le_refl rfl
  · have hn : (checkL L != 0) = true := by simp [h]
    simp only [go_sem, ↓reduceIte, Nat.reduceLT, Nat.reduceLeDiff, Nat.reduceEqDiff, Nat.reduceAdd, Nat.reduceSub, Nat.reduceDiv, Nat.reduceMod, Nat.reduceMul, Nat.reduceBEq, Nat.reduceBNe, reduceCtorEq, Int.reduceLT, Int.reduceLE, Int.reduceEq, Int.reduceNe, Int.reduceBEq, Int.reduceBNe, Int.reduceAdd, Int.reduceSub, Int.reduceNeg, Int.reduceToNat, hn]
    unfold wholeV
    rw [if_neg h]
    exact ex_le_refl rfl
noncomputable def tab_whole : Tab := tabOf (fun p : (List Int) => match p with | L => [ints L]) (fun p : (List Int) => match p with | L => sz L.length) (fun p : (List Int) => match p with | L => .tuple [.agg (spP (wholeV L)), errP (checkL L)])
theorem tab_whole_eq (L : List Int) : tab_whole [ints L] = some (sz L.length, .p (.tuple [.agg (spP (wholeV L)), errP (checkL L)])) := tabOf_eq (enc := fun p : (List Int) => match p with | L => [ints L]) (pre := fun p : (List Int) => match p with | L => sz L.length) (out := fun p : (List Int) => match p with | L => .tuple [.agg (spP (wholeV L)), errP (checkL L)]) (by rintro L L' h; simp at h; first | (simp [h]; done) | omega | (simp [h]; omega)) (L)
theorem tab_whole_ok : TabOK Try.prog 66 tab_whole := tabOf_ok (by rintro L h; exact whole_spec L h)
noncomputable abbrev ent_whole : FuncId × List Nat × Tab := (66, [1], tab_whole)
attribute [go_sem] tab_whole_eq
theorem wholeV_least (L : List Int) : (wholeV L).least = leastV L := by
  unfold wholeV leastV
  split
  · rename_i h
    have := (loads_ok h).lo
    rw [R5.spanOf_least L (by omega), show L.length - 1 - 0 + 1 = L.length by omega]
  · rfl
theorem wholeV_many (L : List Int) : (wholeV L).many = countV L := by
  unfold wholeV countV
  split
  · rename_i h
    have := (loads_ok h).lo
    rw [R5.spanOf_many L (by omega), show L.length - 1 - 0 + 1 = L.length by omega]
  · rfl
theorem wholeV_first (L : List Int) : (wholeV L).first = firstV L := by
  unfold wholeV firstV topsE
  by_cases h : checkL L = 0
  · have := (loads_ok h).lo
    rw [if_pos h, if_pos h]
    by_cases h1 : L.length = 1
    · rw [if_pos h1, if_neg (by omega)]
      unfold R5.spanOf; rw [if_pos (by omega)]
    · rw [if_neg h1, if_pos rfl, R5.spanOf_first L (by omega), show L.length - 1 - 0 + 1 = L.length by omega, Nat.zero_add]
  · rw [if_neg h, if_neg h, if_neg h]; rfl
theorem wholeV_last (L : List Int) : (wholeV L).last = lastV L := by
  unfold wholeV lastV topsE
  by_cases h : checkL L = 0
  · have := (loads_ok h).lo
    rw [if_pos h, if_pos h]
    by_cases h1 : L.length = 1
    · rw [if_pos h1, if_neg (by omega)]
      unfold R5.spanOf; rw [if_pos (by omega)]
    · rw [if_neg h1, if_pos rfl, R5.spanOf_last L (by omega), show L.length - 1 - 0 + 1 = L.length by omega, Nat.zero_add]
  · rw [if_neg h, if_neg h, if_neg h]; rfl

theorem Least5_spec (L : List Int) (hpre : sz L.length) : Ret Try.prog 20 [ints L] (.tuple [intP (leastV L), errP (checkL L)]) := by
  refine fn_of (T := [ent_whole]) (N := 14) (RO := [4]) (CH := []) (KS := [0, 2, 3, 4, 5]) (NS := []) (fun args w => Try.call20 args w) Try.func20 rfl rfl (by simp) mixed (by kernel_rfl) ⟨tab_whole_ok, trivial⟩ ?_
  simp only [go_sem, ↓reduceIte, Nat.reduceLT, Nat.reduceLeDiff, Nat.reduceEqDiff, Nat.reduceAdd, Nat.reduceSub, Nat.reduceDiv, Nat.reduceMod, Nat.reduceMul, Nat.reduceBEq, Nat.reduceBNe, reduceCtorEq, Int.reduceLT, Int.reduceLE, Int.reduceEq, Int.reduceNe, Int.reduceBEq, Int.reduceBNe, Int.reduceAdd, Int.reduceSub, Int.reduceNeg, Int.reduceToNat]
  rw [← wholeV_least]
  simp only [go_sem, ↓reduceIte, Nat.reduceLT, Nat.reduceLeDiff, Nat.reduceEqDiff, Nat.reduceAdd, Nat.reduceSub, Nat.reduceDiv, Nat.reduceMod, Nat.reduceMul, Nat.reduceBEq, Nat.reduceBNe, reduceCtorEq, Int.reduceLT, Int.reduceLE, Int.reduceEq, Int.reduceNe, Int.reduceBEq, Int.reduceBNe, Int.reduceAdd, Int.reduceSub, Int.reduceNeg, Int.reduceToNat, spP]
  (repeat with_reducible refine And.intro (by (repeat' with_reducible refine And.intro ?_ ?_) <;> first | with_reducible assumption | omega | (rw [InK_i64]; omega) | (rw [InK_u64]; omega) | (rw [InK_u8]; omega) | (unfold sz; omega) | exact True.intro) ?_)
  exact ex_le_refl rfl
noncomputable def tab_Least5 : Tab := tabOf (fun p : (List Int) => match p with | L => [ints L]) (fun p : (List Int) => match p with | L => sz L.length) (fun p : (List Int) => match p with | L => .tuple [intP (leastV L), errP (checkL L)])
theorem tab_Least5_eq (L : List Int) : tab_Least5 [ints L] = some (sz L.length, .p (.tuple [intP (leastV L), errP (checkL L)])) := tabOf_eq (enc := fun p : (List Int) => match p with | L => [ints L]) (pre := fun p : (List Int) => match p with | L => sz L.length) (out := fun p : (List Int) => match p with | L => .tuple [intP (leastV L), errP (checkL L)]) (by rintro L L' h; simp at h; first | (simp [h]; done) | omega | (simp [h]; omega)) (L)
theorem tab_Least5_ok : TabOK Try.prog 20 tab_Least5 := tabOf_ok (by rintro L h; exact Least5_spec L h)
noncomputable abbrev ent_Least5 : FuncId × List Nat × Tab := (20, [1], tab_Least5)
attribute [go_sem] tab_Least5_eq

theorem Count5_spec (L : List Int) (hpre : sz L.length) : Ret Try.prog 22 [ints L] (.tuple [intP (countV L), errP (checkL L)]) := by
  refine fn_of (T := [ent_whole]) (N := 14) (RO := [4]) (CH := []) (KS := [0, 2, 3, 4, 5]) (NS := []) (fun args w => Try.call22 args w) Try.func22 rfl rfl (by simp) mixed (by kernel_rfl) ⟨tab_whole_ok, trivial⟩ ?_
  simp only [go_sem, ↓reduceIte, Nat.reduceLT, Nat.reduceLeDiff, Nat.reduceEqDiff, Nat.reduceAdd, Nat.reduceSub, Nat.reduceDiv, Nat.reduceMod, Nat.reduceMul, Nat.reduceBEq, Nat.reduceBNe, reduceCtorEq, Int.reduceLT, Int.reduceLE, Int.reduceEq, Int.reduceNe, Int.reduceBEq, Int.reduceBNe, Int.reduceAdd, Int.reduceSub, Int.reduceNeg, Int.reduceToNat]
  rw [← wholeV_many]
  simp only [go_sem, ↓reduceIte, Nat.reduceLT, Nat.reduceLeDiff, Nat.reduceEqDiff, Nat.reduceAdd, Nat.reduceSub, Nat.reduceDiv, Nat.reduceMod, Nat.reduceMul, Nat.reduceBEq, Nat.reduceBNe, reduceCtorEq, Int.reduceLT, Int.reduceLE, Int.reduceEq, Int.reduceNe, Int.reduceBEq, Int.reduceBNe, Int.reduceAdd, Int.reduceSub, Int.reduceNeg, Int.reduceToNat, spP]
  (repeat with_reducible refine And.intro (by (repeat' with_reducible refine And.intro ?_ ?_) <;> first | with_reducible assumption | omega | (rw [InK_i64]; omega) | (rw [InK_u64]; omega) | (rw [InK_u8]; omega) | (unfold sz; omega) | exact True.intro) ?_)
  exact ex_le_refl rfl
noncomputable def tab_Count5 : Tab := tabOf (fun p : (List Int) => match p with | L => [ints L]) (fun p : (List Int) => match p with | L => sz L.length) (fun p : (List Int) => match p with | L => .tuple [intP (countV L), errP (checkL L)])
theorem tab_Count5_eq (L : List Int) : tab_Count5 [ints L] = some (sz L.length, .p (.tuple [intP (countV L), errP (checkL L)])) := tabOf_eq (enc := fun p : (List Int) => match p with | L => [ints L]) (pre := fun p : (List Int) => match p with | L => sz L.length) (out := fun p : (List Int) => match p with | L => .tuple [intP (countV L), errP (checkL L)]) (by rintro L L' h; simp at h; first | (simp [h]; done) | omega | (simp [h]; omega)) (L)
theorem tab_Count5_ok : TabOK Try.prog 22 tab_Count5 := tabOf_ok (by rintro L h; exact Count5_spec L h)
noncomputable abbrev ent_Count5 : FuncId × List Nat × Tab := (22, [1], tab_Count5)
attribute [go_sem] tab_Count5_eq

theorem Tops5_spec (L : List Int) (hpre : sz L.length) : Ret Try.prog 27 [ints L] (.tuple [intP (firstV L), intP (lastV L), errP (topsE L)]) := by
  refine fn_of (T := [ent_whole]) (N := 23) (RO := [5]) (CH := [2, 3, 4]) (KS := [0, 2, 3, 4, 5, 17]) (NS := []) (fun args w => Try.call27 args w) Try.func27 rfl rfl (by simp) mixed (by kernel_rfl) ⟨tab_whole_ok, trivial⟩ ?_
  simp only [go_sem, ↓reduceIte, Nat.reduceLT, Nat.reduceLeDiff, Nat.reduceEqDiff, Nat.reduceAdd, Nat.reduceSub, Nat.reduceDiv, Nat.reduceMod, Nat.reduceMul, Nat.reduceBEq, Nat.reduceBNe, reduceCtorEq, Int.reduceLT, Int.reduceLE, Int.reduceEq, Int.reduceNe, Int.reduceBEq, Int.reduceBNe, Int.reduceAdd, Int.reduceSub, Int.reduceNeg, Int.reduceToNat]
  rw [← wholeV_first, ← wholeV_last]
  unfold topsE
  by_cases h : checkL L = 0
  · rw [if_pos h]
    by_cases h1 : L.length = 1
    · have e1 : ((L.length : Int) == 1) = true := by simp [h1]
      rw [if_pos h1]
      simp only [go_sem, ↓reduceIte, Nat.reduceLT, Nat.reduceLeDiff, Nat.reduceEqDiff, Nat.reduceAdd, Nat.reduceSub, Nat.reduceDiv, Nat.reduceMod, Nat.reduceMul, Nat.reduceBEq, Nat.reduceBNe, reduceCtorEq, Int.reduceLT, Int.reduceLE, Int.reduceEq, Int.reduceNe, Int.reduceBEq, Int.reduceBNe, Int.reduceAdd, Int.reduceSub, Int.reduceNeg, Int.reduceToNat, spP, h, e1, beq_self_eq_true]
      (repeat with_reducible refine And.intro (by (repeat' with_reducible refine And.intro ?_ ?_) <;> first | with_reducible assumption | omega | (rw [InK_i64]; omega) | (rw [InK_u64]; omega) | (rw [InK_u8]; omega) | (unfold sz; omega) | exact True.intro) ?_)
      exact ex_le_refl rfl
    · have e1 : ((L.length : Int) == 1) = false := by rw [beq_eq_false_iff_ne]; omega
      rw [if_neg h1]
      simp only [go_sem, ↓reduceIte, Nat.reduceLT, Nat.reduceLeDiff, Nat.reduceEqDiff, Nat.reduceAdd, Nat.reduceSub, Nat.reduceDiv, Nat.reduceMod, Nat.reduceMul, Nat.reduceBEq, Nat.reduceBNe, reduceCtorEq, Int.reduceLT, Int.reduceLE, Int.reduceEq, Int.reduceNe, Int.reduceBEq, Int.reduceBNe, Int.reduceAdd, Int.reduceSub, Int.reduceNeg, Int.reduceToNat, spP, h, e1, beq_self_eq_true]
      (repeat with_reducible refine And.intro (by (repeat' with_reducible refine And.intro ?_ ?_) <;> first | with_reducible assumption | omega | (rw [InK_i64]; omega) | (rw [InK_u64]; omega) | (rw [InK_u8]; omega) | (unfold sz; omega) | exact True.intro) ?_)
      exact ex_le_refl rfl
  · have hz : (checkL L == 0) = false := by simp [h]
    rw [if_neg h]
    simp only [go_sem, ↓reduceIte, Nat.reduceLT, Nat.reduceLeDiff, Nat.reduceEqDiff, Nat.reduceAdd, Nat.reduceSub, Nat.reduceDiv, Nat.reduceMod, Nat.reduceMul, Nat.reduceBEq, Nat.reduceBNe, reduceCtorEq, Int.reduceLT, Int.reduceLE, Int.reduceEq, Int.reduceNe, Int.reduceBEq, Int.reduceBNe, Int.reduceAdd, Int.reduceSub, Int.reduceNeg, Int.reduceToNat, spP, hz]
    (repeat with_reducible refine And.intro (by (repeat' with_reducible refine And.intro ?_ ?_) <;> first | with_reducible assumption | omega | (rw [InK_i64]; omega) | (rw [InK_u64]; omega) | (rw [InK_u8]; omega) | (unfold sz; omega) | exact True.intro) ?_)
    exact ex_le_refl rfl
noncomputable def tab_Tops5 : Tab := tabOf (fun p : (List Int) => match p with | L => [ints L]) (fun p : (List Int) => match p with | L => sz L.length) (fun p : (List Int) => match p with | L => .tuple [intP (firstV L), intP (lastV L), errP (topsE L)])
theorem tab_Tops5_eq (L : List Int) : tab_Tops5 [ints L] = some (sz L.length, .p (.tuple [intP (firstV L), intP (lastV L), errP (topsE L)])) := tabOf_eq (enc := fun p : (List Int) => match p with | L => [ints L]) (pre := fun p : (List Int) => match p with | L => sz L.length) (out := fun p : (List Int) => match p with | L => .tuple [intP (firstV L), intP (lastV L), errP (topsE L)]) (by rintro L L' h; simp at h; first | (simp [h]; done) | omega | (simp [h]; omega)) (L)
theorem tab_Tops5_ok : TabOK Try.prog 27 tab_Tops5 := tabOf_ok (by rintro L h; exact Tops5_spec L h)
noncomputable abbrev ent_Tops5 : FuncId × List Nat × Tab := (27, [1], tab_Tops5)
attribute [go_sem] tab_Tops5_eq
end Go.V
