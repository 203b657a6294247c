/-
  Contract of the law SieveNumbered. Conditions: none.
-/
import Derived.Test.YtggiakaeaalioaaD5zb
set_option linter.unusedVariables false
set_option linter.unusedSimpArgs false
set_option linter.deprecated false
namespace Go.V
open Go.Proofs
set_option maxRecDepth 100000
set_option maxHeartbeats 4000000

/-- is a list that of one of the first so many trees? -/
def foundU (n : Nat) (O : List Int) (i : Nat) : Bool := (R5.seenU n i).any fun t => decide (O = t.enc 0)
theorem foundU_succ {n i : Nat} (O : List Int) (hi : i < R5.cnt n) : foundU n O (i + 1) = (foundU n O i || decide (O = (R5.nth n i).enc 0)) := by
  unfold foundU
  rw [R5.seenU_succ hi, List.any_append]
  simp
theorem foundU_all (n : Nat) (O : List Int) : foundU n O (R5.cnt n) = R5.validB n O := by
  unfold foundU R5.validB
  rw [R5.seenU_all]
  congr 1
  funext t
  rw [Bool.eq_iff_iff]
  simp only [decide_eq_true_eq, beq_iff_eq]
  exact eq_comm
theorem nth_eqs {n m : Nat} (h1 : 1 ≤ n) (h8 : n ≤ 8) (hm : m < R5.cnt n) : treeE n m = 0 ∧ treeV n m = (R5.nth n m).enc 0 ∧ (R5.nth n m).kinds = n ∧ validE n ((R5.nth n m).enc 0) = 0 ∧ depthsV n ((R5.nth n m).enc 0) = (R5.nth n m).dep ∧ R5.treeOf n ((R5.nth n m).enc 0) = R5.nth n m := by
  have hk := R5.nth_kinds h1 hm
  have hE : treeE n m = 0 := by
    unfold treeE
    rw [if_pos (by omega), if_pos]
    simp only [Int.toNat_natCast]; omega
  have hv : validE n ((R5.nth n m).enc 0) = 0 := validE_zero.2 ⟨n, rfl, h1, h8, (R5.valid_iff h1 _).2 ⟨_, hk, rfl⟩⟩
  have ht : R5.treeOf n ((R5.nth n m).enc 0) = R5.nth n m := by
    have := R5.treeOf_enc (t := R5.nth n m)
    rwa [hk] at this
  refine ⟨hE, ?_, hk, hv, ?_, ht⟩
  · unfold treeV; rw [if_pos hE]; simp only [Int.toNat_natCast]
  · unfold depthsV; rw [if_pos hv, Int.toNat_natCast, ht]
/-- the cells of the law after so many trees -/
def numS (n : Nat) (O : List Int) (i : Nat) : List (Nat × Ob) := [(5000000, .cells 3 [.p (natP i)]), (5000001, .cells 4 [.p (boolP true)]), (5000002, .cells 4 [.p (boolP (foundU n O i))]), (5000003, .cells 22 [.sl 5000004]), (5000004, .vec 3 1 (lof intP O))]
theorem numC_spec {n : Nat} {O : List Int} (hn : 1 ≤ n) (hn8 : n ≤ 8) (hO : O.length ≤ 8) {i : Nat} (hi : i < R5.cnt n) : FnO Try.prog 53 [.p (ints ((R5.nth n i).enc 0)), .p (ints (R5.nth n i).dep), .p (.ref [natP n] 0), .ptr 5000000 0, .ptr 5000001 0, .ptr 5000002 0, .ptr 5000003 0] (numS n O i) (fun x H => x = .p (.tuple []) ∧ H = numS n O (i + 1)) := by
  obtain ⟨t1, t2, t3, t4, t5, t6⟩ := nth_eqs hn hn8 hi
  have hcl := R5.cnt_le hn8
  have hel := (R5.nth n i).enc_length 0
  have hdl := (R5.nth n i).dep_length
  have hfs := foundU_succ O hi
  unfold numS
  rw [hfs]
  generalize foundU n O i = fo at *
  generalize R5.nth n i = t at *
  refine fnO_of (T := [ent_Tree5, ent_Depths5, ent_same5]) [5000000, 5000001, 5000002, 5000003, 5000004] [] (N := 52) (RO := []) (CH := []) (KS := [0, 1, 2, 3, 4, 5, 6, 9, 10, 11, 12]) (NS := [5000000, 5000001, 5000002, 5000003, 5000004]) (fun args w => Try.call53 args w) Try.func53 rfl rfl (by simp) mixed (by kernel_rfl) ⟨tab_Tree5_ok, tab_Depths5_ok, tab_same5_ok, trivial⟩ ?_
  have d1 : decide (t.enc 0 = t.enc 0) = true := by simp
  have d2 : decide (t.dep = t.dep) = true := by simp
  have e1 : (i : Int) + 1 = ((i + 1 : Nat) : Int) := by omega
  have hze : sz (t.enc 0).length := by unfold sz; omega
  have hzd : sz t.dep.length := by unfold sz; omega
  have hzO : sz O.length := by unfold sz; omega
  cases fo
  · simp only [go_sem, ↓reduceIte, Nat.reduceLT, Nat.reduceLeDiff, Nat.reduceEqDiff, Nat.reduceAdd, Nat.reduceSub, Nat.reduceDiv, Nat.reduceMod, Nat.reduceMul, Nat.reduceBEq, Nat.reduceBNe, reduceCtorEq, Int.reduceLT, Int.reduceLE, Int.reduceEq, Int.reduceNe, Int.reduceBEq, Int.reduceBNe, Int.reduceAdd, Int.reduceSub, Int.reduceNeg, Int.reduceToNat, t1, t2, t4, t5, d1, d2, e1, and_self, if_false]
    exact ⟨by omega, hze, hzd, ⟨hzO, hze⟩, by rw [InK_i64]; omega, _, .refl _, rfl⟩
  · simp only [go_sem, ↓reduceIte, Nat.reduceLT, Nat.reduceLeDiff, Nat.reduceEqDiff, Nat.reduceAdd, Nat.reduceSub, Nat.reduceDiv, Nat.reduceMod, Nat.reduceMul, Nat.reduceBEq, Nat.reduceBNe, reduceCtorEq, Int.reduceLT, Int.reduceLE, Int.reduceEq, Int.reduceNe, Int.reduceBEq, Int.reduceBNe, Int.reduceAdd, Int.reduceSub, Int.reduceNeg, Int.reduceToNat, t1, t2, t4, t5, d1, d2, e1, and_self, if_false]
    exact ⟨by omega, hze, hzd, by rw [InK_i64]; omega, _, .refl _, rfl⟩

theorem num_run {n : Nat} {O : List Int} (hn : 1 ≤ n) (hn8 : n ≤ 8) (hO : O.length ≤ 8) : FnO Try.prog 46 [.p (intP 0), .p (natP (n - 1)), .clo 53 [.p (.ref [natP n] 0), .ptr 5000000 0, .ptr 5000001 0, .ptr 5000002 0, .ptr 5000003 0]]
    [(5000000, .cells 3 [.p (natP 0)]), (5000001, .cells 4 [.p (boolP true)]), (5000002, .cells 4 [.p (boolP false)]), (5000003, .cells 22 [.sl 5000004]), (5000004, .vec 3 1 (lof intP O))]
    (fun x H => x = .p (.tuple []) ∧ H = [(5000000, .cells 3 [.p (natP (R5.cnt n))]), (5000001, .cells 4 [.p (boolP true)]), (5000002, .cells 4 [.p (boolP (R5.validB n O))]), (5000003, .cells 22 [.sl 5000004]), (5000004, .vec 3 1 (lof intP O))]) := by
  have hs := all_spec n 0 5 53 [.p (.ref [natP n] 0), .ptr 5000000 0, .ptr 5000001 0, .ptr 5000002 0, .ptr 5000003 0] (numS n O) hn (by omega) (by omega)
    ⟨by decide, by decide, rfl, fun i _ => ⟨rfl, fun x hx => by
      simp only [numS, List.mem_cons, List.not_mem_nil, or_false] at hx
      rcases hx with rfl | rfl | rfl | rfl | rfl <;> rfl⟩, fun i hi => numC_spec hn hn8 hO hi⟩
  rw [Nat.zero_add] at hs
  have e0 : numS n O 0 = [(5000000, .cells 3 [.p (natP 0)]), (5000001, .cells 4 [.p (boolP true)]), (5000002, .cells 4 [.p (boolP false)]), (5000003, .cells 22 [.sl 5000004]), (5000004, .vec 3 1 (lof intP O))] := by
    simp [numS, foundU, R5.seenU]
  have e1 := foundU_all n O
  unfold numS at hs e0
  rw [e0, e1] at hs
  exact hs

/-- the list of the law -/
def othD (n : Nat) (B : List Nat) : List Int := (B.take (n - 1)).map fun x => ((x % n : Nat) : Int)
theorem SieveNumbered_spec (c : Nat) (B : List Nat) (hpre : c < 256 ∧ U8s 8 B) : Ret Try.prog 10 [u8P c, .agg (lof u8P B)] (boolP true) := by
  refine fn_of (T := [ent_Tree5, ent_Trees5, ent_Valid5, ent_works]) (N := 85) (RO := [3, 5, 34, 77]) (CH := [4, 29, 35, 53, 64, 69, 70, 76, 78, 79]) (KS := [0, 1, 3, 4, 5, 6, 8, 9, 10, 11, 13, 14, 15, 16, 23, 24, 25, 26, 52]) (NS := [6, 9, 10, 11, 35, 78, 900]) (fun args w => Try.call10 args w) Try.func10 rfl rfl (by simp) mixed (by kernel_rfl) ⟨tab_Tree5_ok, tab_Trees5_ok, tab_Valid5_ok, tab_works_ok, trivial⟩ ?_
  simp only [go_sem, ↓reduceIte, Nat.reduceLT, Nat.reduceLeDiff, Nat.reduceEqDiff, Nat.reduceAdd, Nat.reduceSub, Nat.reduceDiv, Nat.reduceMod, Nat.reduceMul, Nat.reduceBEq, Nat.reduceBNe, reduceCtorEq, Int.reduceLT, Int.reduceLE, Int.reduceEq, Int.reduceNe, Int.reduceBEq, Int.reduceBNe, Int.reduceAdd, Int.reduceSub, Int.reduceNeg, Int.reduceToNat]
  obtain ⟨hc, hB, hB2⟩ := hpre
  have hr1 := Nat.mod_lt c (show 6 > 0 by omega)
  have e1 : (c : Int) % 6 = ((c % 6 : Nat) : Int) := by omega
  have e2 : (1 : Int) + ((c % 6 : Nat) : Int) = ((1 + c % 6 : Nat) : Int) := by omega
  have e3 : ((1 + c % 6 : Nat) : Int) - 1 = ((1 + c % 6 - 1 : Nat) : Int) := by omega
  have hnl : (B.take (1 + c % 6 - 1)).length = 1 + c % 6 - 1 := by simp only [List.length_take]; omega
  simp only [go_sem, ↓reduceIte, Nat.reduceLT, Nat.reduceLeDiff, Nat.reduceEqDiff, Nat.reduceAdd, Nat.reduceSub, Nat.reduceDiv, Nat.reduceMod, Nat.reduceMul, Nat.reduceBEq, Nat.reduceBNe, reduceCtorEq, Int.reduceLT, Int.reduceLE, Int.reduceEq, Int.reduceNe, Int.reduceBEq, Int.reduceBNe, Int.reduceAdd, Int.reduceSub, Int.reduceNeg, Int.reduceToNat, u8s_one, lof_length, hB, e1, e2, e3, List.drop_zero, lof_take, hnl]
  have hoth : othD (1 + c % 6) B = (B.take (1 + c % 6 - 1)).map fun x => ((x % (1 + c % 6) : Nat) : Int) := rfl
  generalize hn : 1 + c % 6 = n at *
  refine ⟨by rw [InK_i64]; omega, by rw [InK_i64]; omega, by rw [InK_i64]; omega, by omega, ?_⟩
  refine vfor [4,5,6,23,24,25] [6, 35, 900] [.nilC 6 0 900 3 1, .ren 35 900] (n - 1) (fun _ => True) (fun j => ⟨[(4,.p (boolP false)),(5,.p (.ref [natP n] 0)),(6,.ptr 6 0),(23,.p (.list .any 1 (lof u8P (B.take (n - 1))))),(24,.p (natP (n - 1))),(25,.p (natP j))], [(6,.cells 22 [.sl 900]), (900,.vec 3 1 (lof intP ((othD n B).take j)))]⟩) (by first | rfl | (simp only [go_sem, ↓reduceIte, Nat.reduceLT, Nat.reduceLeDiff, Nat.reduceEqDiff, Nat.reduceAdd, Nat.reduceSub, Nat.reduceDiv, Nat.reduceMod, Nat.reduceMul, Nat.reduceBEq, Nat.reduceBNe, reduceCtorEq, Int.reduceLT, Int.reduceLE, Int.reduceEq, Int.reduceNe, Int.reduceBEq, Int.reduceBNe, Int.reduceAdd, Int.reduceSub, Int.reduceNeg, Int.reduceToNat, List.take_zero]; first | done | rfl)) trivial ?_
  intro j hj _
  by_cases hlt : j < n - 1
  · obtain ⟨x, hx⟩ := get_some (show j < (B.take (n - 1)).length by omega)
    have hx2 := hB2 x (List.mem_of_mem_take (List.mem_of_getElem? hx))
    have e4 := emod_nat x n
    have hr2 := Nat.mod_lt x (show n > 0 by omega)
    have hts : (othD n B).take (j + 1) = (othD n B).take j ++ [((x % n : Nat) : Int)] := take_succ_of (by rw [hoth, List.getElem?_map, hx]; rfl)
    have hlen : ((othD n B).take j).length ≤ 4294967295 := by rw [List.length_take]; omega
    simp only [go_sem, ↓reduceIte, Nat.reduceLT, Nat.reduceLeDiff, Nat.reduceEqDiff, Nat.reduceAdd, Nat.reduceSub, Nat.reduceDiv, Nat.reduceMod, Nat.reduceMul, Nat.reduceBEq, Nat.reduceBNe, reduceCtorEq, Int.reduceLT, Int.reduceLE, Int.reduceEq, Int.reduceNe, Int.reduceBEq, Int.reduceBNe, Int.reduceAdd, Int.reduceSub, Int.reduceNeg, Int.reduceToNat, hlt, lof_getD hx, hnl, e4, lof_snoc_int]
    rw [hts]
    (repeat with_reducible refine And.intro (by (repeat' with_reducible refine And.intro ?_ ?_) <;> first | with_reducible assumption | omega | (simp only [InK_i64, InK_u64, InK_u8]; omega) | (unfold sz; omega) | exact True.intro) ?_)
    first | rfl | exact ⟨trivial, rfl⟩
  · obtain rfl : j = n - 1 := by omega
    have hta : (othD n B).take (n - 1) = othD n B := List.take_of_length_le (by rw [hoth]; simp only [List.length_map]; omega)
    rw [hta]
    have hDl : (othD n B).length = n - 1 := by rw [hoth]; simp only [List.length_map]; omega
    generalize othD n B = O at *
    simp only [go_sem, ↓reduceIte, Nat.reduceLT, Nat.reduceLeDiff, Nat.reduceEqDiff, Nat.reduceAdd, Nat.reduceSub, Nat.reduceDiv, Nat.reduceMod, Nat.reduceMul, Nat.reduceBEq, Nat.reduceBNe, reduceCtorEq, Int.reduceLT, Int.reduceLE, Int.reduceEq, Int.reduceNe, Int.reduceBEq, Int.reduceBNe, Int.reduceAdd, Int.reduceSub, Int.reduceNeg, Int.reduceToNat, hlt, e3]
    refine ⟨by rw [InK_i64]; omega, ?_⟩
    refine vcallO [9, 10, 11, 6, 900] 40000 (num_run (n := n) (O := O) (by omega) (by omega) (by omega)) (by first | rfl | (simp only [go_sem, seval, AV.mapN, AV.mapNL, Ob.mapN, mapNL_p, cnx, canH, canH.canH1, lowE, lowH, lowL, lowN, AV.allN, AV.allNL, Ob.allN, allNL_p, okNm, okKey, okH, bkp, bk, bkH, lof_snoc_int, List.getD_cons_zero, List.getD_cons_succ]; first | done | rfl) | (simp [AV.mapN, AV.mapNL, Ob.mapN, mapNL_p, cnx, canH, canH.canH1, St.h, lowE, lowH, lowL, lowN, AV.allN, AV.allNL, Ob.allN, allNL_p, okNm, okKey, okH, bkp, bk, bkH]; done)) (by first | rfl | (simp only [go_sem, seval, AV.mapN, AV.mapNL, Ob.mapN, mapNL_p, cnx, canH, canH.canH1, lowE, lowH, lowL, lowN, AV.allN, AV.allNL, Ob.allN, allNL_p, okNm, okKey, okH, bkp, bk, bkH, lof_snoc_int, List.getD_cons_zero, List.getD_cons_succ]; first | done | rfl) | (simp [AV.mapN, AV.mapNL, Ob.mapN, mapNL_p, cnx, canH, canH.canH1, St.h, lowE, lowH, lowL, lowN, AV.allN, AV.allNL, Ob.allN, allNL_p, okNm, okKey, okH, bkp, bk, bkH]; done)) (by omega) (by first | rfl | (simp only [go_sem, seval, AV.mapN, AV.mapNL, Ob.mapN, mapNL_p, cnx, canH, canH.canH1, lowE, lowH, lowL, lowN, AV.allN, AV.allNL, Ob.allN, allNL_p, okNm, okKey, okH, bkp, bk, bkH, lof_snoc_int, List.getD_cons_zero, List.getD_cons_succ]; first | done | rfl) | (simp [AV.mapN, AV.mapNL, Ob.mapN, mapNL_p, cnx, canH, canH.canH1, St.h, lowE, lowH, lowL, lowN, AV.allN, AV.allNL, Ob.allN, allNL_p, okNm, okKey, okH, bkp, bk, bkH]; done)) ?_
    rintro _ H' ⟨rfl, rfl⟩
    refine ⟨(by first | rfl | (simp only [go_sem, seval, AV.mapN, AV.mapNL, Ob.mapN, mapNL_p, cnx, canH, canH.canH1, lowE, lowH, lowL, lowN, AV.allN, AV.allNL, Ob.allN, allNL_p, okNm, okKey, okH, bkp, bk, bkH, lof_snoc_int, List.getD_cons_zero, List.getD_cons_succ]; first | done | rfl) | (simp [AV.mapN, AV.mapNL, Ob.mapN, mapNL_p, cnx, canH, canH.canH1, St.h, lowE, lowH, lowL, lowN, AV.allN, AV.allNL, Ob.allN, allNL_p, okNm, okKey, okH, bkp, bk, bkH]; done)), ?_⟩
    have t1 : treeE (n : Int) (R5.cnt n : Int) = 2 := by
      unfold treeE
      rw [if_pos (by omega), if_neg (by simp)]
    have t3 : treesE (n : Int) = 0 := by unfold treesE; rw [if_pos (by omega)]
    have t4 : treesV (n : Int) = (R5.cnt n : Int) := by unfold treesV; rw [if_pos (by omega), Int.toNat_natCast]
    have t5 : validE (n : Int) O = if R5.validB n O = true then 0 else 5 := by unfold validE; rw [if_pos (by omega), Int.toNat_natCast]
    have t6 : validE (n : Int) (O ++ [0]) = 5 := by
      unfold validE
      rw [if_pos (by omega), Int.toNat_natCast, if_neg]
      intro hv
      obtain ⟨t, hk, he⟩ := (R5.valid_iff (by omega) _).1 hv
      have h1 := congrArg List.length he
      rw [R5.T.enc_length, List.length_append] at h1
      simp at h1; omega
    cases hvb : R5.validB n O
    · rw [hvb] at t5
      simp only [Bool.false_eq_true, if_false] at t5
      simp only [go_sem, ↓reduceIte, Nat.reduceLT, Nat.reduceLeDiff, Nat.reduceEqDiff, Nat.reduceAdd, Nat.reduceSub, Nat.reduceDiv, Nat.reduceMod, Nat.reduceMul, Nat.reduceBEq, Nat.reduceBNe, reduceCtorEq, Int.reduceLT, Int.reduceLE, Int.reduceEq, Int.reduceNe, Int.reduceBEq, Int.reduceBNe, Int.reduceAdd, Int.reduceSub, Int.reduceNeg, Int.reduceToNat, St.back, AV.mapN, AV.mapNL, Ob.mapN, mapNL_p, bk, bkp, bkH, t1, t3, t4, t5, t6, lof_snoc_int]
      exact ⟨by omega, by omega, by simp; omega, ex_le_refl rfl⟩
    · rw [hvb] at t5
      simp only [if_true] at t5
      simp only [go_sem, ↓reduceIte, Nat.reduceLT, Nat.reduceLeDiff, Nat.reduceEqDiff, Nat.reduceAdd, Nat.reduceSub, Nat.reduceDiv, Nat.reduceMod, Nat.reduceMul, Nat.reduceBEq, Nat.reduceBNe, reduceCtorEq, Int.reduceLT, Int.reduceLE, Int.reduceEq, Int.reduceNe, Int.reduceBEq, Int.reduceBNe, Int.reduceAdd, Int.reduceSub, Int.reduceNeg, Int.reduceToNat, St.back, AV.mapN, AV.mapNL, Ob.mapN, mapNL_p, bk, bkp, bkH, t1, t3, t4, t5, t6, lof_snoc_int]
      exact ⟨by omega, by omega, by simp; omega, ex_le_refl rfl⟩
noncomputable def tab_SieveNumbered : Tab := tabOf (fun p : (Nat) × (List Nat) => match p with | (c, B) => [u8P c, .agg (lof u8P B)]) (fun p : (Nat) × (List Nat) => match p with | (c, B) => c < 256 ∧ U8s 8 B) (fun p : (Nat) × (List Nat) => match p with | (c, B) => boolP true)
theorem tab_SieveNumbered_eq (c : Nat) (B : List Nat) : tab_SieveNumbered [u8P c, .agg (lof u8P B)] = some (c < 256 ∧ U8s 8 B, .p (boolP true)) := tabOf_eq (enc := fun p : (Nat) × (List Nat) => match p with | (c, B) => [u8P c, .agg (lof u8P B)]) (pre := fun p : (Nat) × (List Nat) => match p with | (c, B) => c < 256 ∧ U8s 8 B) (out := fun p : (Nat) × (List Nat) => match p with | (c, B) => boolP true) (by rintro ⟨c, B⟩ ⟨c', B'⟩ h; simp at h; first | (simp [h]; done) | omega | (simp [h]; omega)) (c, B)
theorem tab_SieveNumbered_ok : TabOK Try.prog 10 tab_SieveNumbered := tabOf_ok (by rintro ⟨c, B⟩ h; exact SieveNumbered_spec c B h)
noncomputable abbrev ent_SieveNumbered : FuncId × List Nat × Tab := (10, [], tab_SieveNumbered)
attribute [go_sem] tab_SieveNumbered_eq
end Go.V
