/-
  Contracts of the reference: open sets, the base. Conditions: none.
-/
import Derived.Test.YthhfgcejamfinaaGreatC06m
import Derived.Test.YthhfgcejamfinaaGreatP6z
set_option linter.unusedVariables false
set_option linter.unusedSimpArgs false
set_option linter.deprecated false
namespace Go.V
open Go.Proofs
set_option maxRecDepth 100000
set_option maxHeartbeats 4000000

attribute [local irreducible] R6.setsA R6.followsR R6.opRowR R6.opUptoR
theorem opened_length {n : Int} (h6 : n ≤ 6) : (R6.setsA n).length ≤ 117649 := setsA_length h6

theorem opens6R_spec (n : Int) (l : List (List Int × List Int)) (hpre : 0 ≤ n ∧ n ≤ 6 ∧ BkOK l ∧ sz l.length) : Ret Tryz.prog 43 [bookP n l] (.tuple [rowsP ((R6.opensR n l).map (·.1)), rowsP ((R6.opensR n l).map (·.2))]) := by
  refine fn_of (T := [ent_closed6, ent_part6, ent_follows6, ent_sets6]) (N := 95) (RO := [1, 79, 91]) (CH := [5, 9, 52, 54, 55, 60, 63, 65, 66, 71, 81, 92]) (KS := [0, 1, 2, 3, 4, 5, 6, 7, 8, 9, 10, 17, 23, 49, 73]) (NS := [2, 3, 4, 5, 80, 92]) (fun args w => Tryz.call43 args w) Tryz.func43 rfl rfl (by simp) mixed (by kernel_rfl) ⟨tab_closed6_ok, tab_part6_ok, tab_follows6_ok, tabSets6_ok 7, trivial⟩ ?_
  simp only [go_sem, ↓reduceIte, Nat.reduceLT, Nat.reduceLeDiff, Nat.reduceEqDiff, Nat.reduceAdd, Nat.reduceMul, Nat.reduceBEq, reduceCtorEq, Int.reduceLT, Int.reduceLE, Int.reduceEq, Int.reduceNe, Int.reduceBEq, Int.reduceBNe, Int.reduceAdd, Int.reduceSub, Int.reduceNeg, Int.reduceToNat, beq_self_eq_true, Option.all_some, Option.all_none, Option.some_beq_some, Bool.and_self, List.size_toArray, cond_true, cond_false, beq_true, beq_false, bne_self_eq_false, List.append_eq]
  have hs := tab_sets6_nil hpre.1 hpre.2.1
  have hsl := setsA_length hpre.2.1
  have hrow := R6.setsA_row hpre.2.1
  simp only [go_sem, ↓reduceIte, Nat.reduceLT, Nat.reduceLeDiff, Nat.reduceEqDiff, Nat.reduceAdd, Nat.reduceMul, Nat.reduceBEq, reduceCtorEq, Int.reduceLT, Int.reduceLE, Int.reduceEq, Int.reduceNe, Int.reduceBEq, Int.reduceBNe, Int.reduceAdd, Int.reduceSub, Int.reduceNeg, Int.reduceToNat, beq_self_eq_true, Option.all_some, Option.all_none, Option.some_beq_some, Bool.and_self, List.size_toArray, cond_true, cond_false, beq_true, beq_false, bne_self_eq_false, List.append_eq, hs]
  refine vfor [1,4,5,6,7] [4,5] [.nilS 4 25 1, .nilS 5 25 1] (n.toNat + 1) (fun s => s ≤ 7) (fun s => ⟨[(1,.p (.ref [intP n, sents l] 0)),(4,.sl 4),(5,.sl 5),(6,.p (rowsP (R6.setsA n))),(7,.p (natP s))], [(4, .vec 25 1 (lof ints ((R6.opUptoR n l s).map (·.1)))), (5, .vec 25 1 (lof ints ((R6.opUptoR n l s).map (·.2))))]⟩) (by first | rfl | (simp only [go_sem, ↓reduceIte, Nat.reduceLT, Nat.reduceLeDiff, Nat.reduceEqDiff, Nat.reduceAdd, Nat.reduceMul, Nat.reduceBEq, reduceCtorEq, Int.reduceLT, Int.reduceLE, Int.reduceEq, Int.reduceNe, Int.reduceBEq, Int.reduceBNe, Int.reduceAdd, Int.reduceSub, Int.reduceNeg, Int.reduceToNat, beq_self_eq_true, Option.all_some, Option.all_none, Option.some_beq_some, Bool.and_self, List.size_toArray, cond_true, cond_false, beq_true, beq_false, bne_self_eq_false, List.append_eq, R6.opUptoR, List.map_nil]; first | done | rfl)) (by simp) ?_
  intro s hs1 hs7
  by_cases hle : (s : Int) ≤ n
  · simp only [go_sem, ↓reduceIte, Nat.reduceLT, Nat.reduceLeDiff, Nat.reduceEqDiff, Nat.reduceAdd, Nat.reduceMul, Nat.reduceBEq, reduceCtorEq, Int.reduceLT, Int.reduceLE, Int.reduceEq, Int.reduceNe, Int.reduceBEq, Int.reduceBNe, Int.reduceAdd, Int.reduceSub, Int.reduceNeg, Int.reduceToNat, beq_self_eq_true, Option.all_some, Option.all_none, Option.some_beq_some, Bool.and_self, List.size_toArray, cond_true, cond_false, beq_true, beq_false, bne_self_eq_false, List.append_eq, hle]
    have hok := R6.OpsOK.upto hpre.2.1 l s
    generalize hos : R6.opUptoR n l s = os at *
    refine vfor [1,4,5,6,7,8] [4,5] [] (R6.setsA n).length (fun k => True) (fun k => ⟨[(1,.p (.ref [intP n, sents l] 0)),(4,.sl 4),(5,.sl 5),(6,.p (rowsP (R6.setsA n))),(7,.p (natP s)),(8,.p (natP k))], [(4, .vec 25 1 (lof ints ((R6.opRowR n l s os k).map (·.1)))), (5, .vec 25 1 (lof ints ((R6.opRowR n l s os k).map (·.2))))]⟩) (by first | rfl | (simp only [go_sem, ↓reduceIte, Nat.reduceLT, Nat.reduceLeDiff, Nat.reduceEqDiff, Nat.reduceAdd, Nat.reduceMul, Nat.reduceBEq, reduceCtorEq, Int.reduceLT, Int.reduceLE, Int.reduceEq, Int.reduceNe, Int.reduceBEq, Int.reduceBNe, Int.reduceAdd, Int.reduceSub, Int.reduceNeg, Int.reduceToNat, beq_self_eq_true, Option.all_some, Option.all_none, Option.some_beq_some, Bool.and_self, List.size_toArray, cond_true, cond_false, beq_true, beq_false, bne_self_eq_false, List.append_eq, R6.opRowR_zero]; first | done | rfl)) trivial ?_
    intro k hk _
    have hok2 := R6.OpsOK.rowN (l := l) (size := s) hpre.2.1 hok k hk
    by_cases hlt : k < (R6.setsA n).length
    · obtain ⟨x, hx⟩ := get_some hlt
      have hxz := hrow x (List.mem_of_getElem? hx)
      have hz : sz x.length := by unfold sz; omega
      have hsu := R6.opRowR_succ n l s os hx
      generalize hq : R6.opRowR n l s os k = qs at *
      by_cases h1 : x.length = s
      · by_cases h2 : R6.closedR l x = true
        · have hb : R6.isR l s x = false := by simp [R6.isR, h2]
          simp only [go_sem, ↓reduceIte, Nat.reduceLT, Nat.reduceLeDiff, Nat.reduceEqDiff, Nat.reduceAdd, Nat.reduceMul, Nat.reduceBEq, reduceCtorEq, Int.reduceLT, Int.reduceLE, Int.reduceEq, Int.reduceNe, Int.reduceBEq, Int.reduceBNe, Int.reduceAdd, Int.reduceSub, Int.reduceNeg, Int.reduceToNat, beq_self_eq_true, Option.all_some, Option.all_none, Option.some_beq_some, Bool.and_self, List.size_toArray, cond_true, cond_false, beq_true, beq_false, bne_self_eq_false, List.append_eq, hlt, lof_getD hx, hz, hpre.2.2.1, hpre.2.2.2, h2, h1, show ((x.length : Int) == (s : Int)) = true by simp [h1]]
          refine ⟨by unfold sz; omega, ?_⟩
          rw [show (PV.val (Value.bool false)) = boolP (R6.isR l s x) by rw [hb]]
          refine vfor [1,4,5,6,7,8,9,10] [4,5] [] qs.length (fun j => True) (fun j => ⟨[(1,.p (.ref [intP n, sents l] 0)),(4,.sl 4),(5,.sl 5),(6,.p (rowsP (R6.setsA n))),(7,.p (natP s)),(8,.p (natP k)),(9,.p (boolP (R6.isR l s x && (qs.take j).all (R6.openAt x)))),(10,.p (natP j))], [(4, .vec 25 1 (lof ints (qs.map (·.1)))), (5, .vec 25 1 (lof ints (qs.map (·.2))))]⟩) (by first | rfl | (simp only [go_sem, ↓reduceIte, Nat.reduceLT, Nat.reduceLeDiff, Nat.reduceEqDiff, Nat.reduceAdd, Nat.reduceMul, Nat.reduceBEq, reduceCtorEq, Int.reduceLT, Int.reduceLE, Int.reduceEq, Int.reduceNe, Int.reduceBEq, Int.reduceBNe, Int.reduceAdd, Int.reduceSub, Int.reduceNeg, Int.reduceToNat, beq_self_eq_true, Option.all_some, Option.all_none, Option.some_beq_some, Bool.and_self, List.size_toArray, cond_true, cond_false, beq_true, beq_false, bne_self_eq_false, List.append_eq, List.take_zero, List.all_nil, Bool.and_true]; first | done | rfl)) trivial ?_
          clear hb
          have hlen := hok2.len
          intro j hj _
          by_cases hjl : j < qs.length
          · obtain ⟨o, ho⟩ := get_some hjl
            have hor := hok2.row o (List.mem_of_getElem? ho)
            have ho1 : (qs.map (·.1))[j]? = some o.1 := by simp [ho]
            have ho2 : (qs.map (·.2))[j]? = some o.2 := by simp [ho]
            have z1 : sz o.1.length := by unfold sz; omega
            have z2 : sz o.2.length := by unfold sz; omega
            by_cases hb : (R6.isR l s x && (qs.take j).all (R6.openAt x)) = true
            · have hb' := hb
              rw [Bool.and_eq_true] at hb'
              by_cases p1 : R6.part o.1 x = true
              · simp only [go_sem, ↓reduceIte, Nat.reduceLT, Nat.reduceLeDiff, Nat.reduceEqDiff, Nat.reduceAdd, Nat.reduceMul, Nat.reduceBEq, reduceCtorEq, Int.reduceLT, Int.reduceLE, Int.reduceEq, Int.reduceNe, Int.reduceBEq, Int.reduceBNe, Int.reduceAdd, Int.reduceSub, Int.reduceNeg, Int.reduceToNat, beq_self_eq_true, Option.all_some, Option.all_none, Option.some_beq_some, Bool.and_self, List.size_toArray, cond_true, cond_false, beq_true, beq_false, bne_self_eq_false, List.append_eq, hjl, hb, List.length_map, lof_getD hx, lof_getD ho1, lof_getD ho2, p1, hz, z1, z2]
                have e : (R6.isR l s x && (qs.take (j + 1)).all (R6.openAt x)) = R6.part o.2 x := by rw [R6.take_succ_of ho, List.all_append, hb'.1, hb'.2]; simp [R6.openAt, p1]
                rw [e]
                clear hsu hq hs hos
                (repeat' (first | (rw [InK_i64]; omega) | (rw [InK_u8]; omega) | (rw [InK_u64]; omega) | omega | rfl | apply And.intro))
              · rw [Bool.not_eq_true] at p1
                simp only [go_sem, ↓reduceIte, Nat.reduceLT, Nat.reduceLeDiff, Nat.reduceEqDiff, Nat.reduceAdd, Nat.reduceMul, Nat.reduceBEq, reduceCtorEq, Int.reduceLT, Int.reduceLE, Int.reduceEq, Int.reduceNe, Int.reduceBEq, Int.reduceBNe, Int.reduceAdd, Int.reduceSub, Int.reduceNeg, Int.reduceToNat, beq_self_eq_true, Option.all_some, Option.all_none, Option.some_beq_some, Bool.and_self, List.size_toArray, cond_true, cond_false, beq_true, beq_false, bne_self_eq_false, List.append_eq, hjl, hb, List.length_map, lof_getD hx, lof_getD ho1, lof_getD ho2, p1, hz, z1, z2]
                have e : (R6.isR l s x && (qs.take (j + 1)).all (R6.openAt x)) = true := by rw [R6.take_succ_of ho, List.all_append, hb'.1, hb'.2]; simp [R6.openAt, p1]
                rw [e]
                clear hsu hq hs hos
                (repeat' (first | (rw [InK_i64]; omega) | (rw [InK_u8]; omega) | (rw [InK_u64]; omega) | omega | rfl | apply And.intro))
            · rw [Bool.not_eq_true] at hb
              have e : R6.opStepR n l s qs x = qs := R6.opStepR_no hb
              simp only [go_sem, ↓reduceIte, Nat.reduceLT, Nat.reduceLeDiff, Nat.reduceEqDiff, Nat.reduceAdd, Nat.reduceMul, Nat.reduceBEq, reduceCtorEq, Int.reduceLT, Int.reduceLE, Int.reduceEq, Int.reduceNe, Int.reduceBEq, Int.reduceBNe, Int.reduceAdd, Int.reduceSub, Int.reduceNeg, Int.reduceToNat, beq_self_eq_true, Option.all_some, Option.all_none, Option.some_beq_some, Bool.and_self, List.size_toArray, cond_true, cond_false, beq_true, beq_false, bne_self_eq_false, List.append_eq, hjl, hb, List.length_map]
              rw [hsu, e]
              clear hsu hq hs hos e
              (repeat' (first | (rw [InK_i64]; omega) | (rw [InK_u8]; omega) | (rw [InK_u64]; omega) | omega | rfl | apply And.intro))
          · by_cases hb : (R6.isR l s x && qs.all (R6.openAt x)) = true
            · have e : R6.opStepR n l s qs x = qs ++ [(x, R6.followsR n l x)] := by unfold R6.opStepR; rw [if_pos hb]
              simp only [go_sem, ↓reduceIte, Nat.reduceLT, Nat.reduceLeDiff, Nat.reduceEqDiff, Nat.reduceAdd, Nat.reduceMul, Nat.reduceBEq, reduceCtorEq, Int.reduceLT, Int.reduceLE, Int.reduceEq, Int.reduceNe, Int.reduceBEq, Int.reduceBNe, Int.reduceAdd, Int.reduceSub, Int.reduceNeg, Int.reduceToNat, beq_self_eq_true, Option.all_some, Option.all_none, Option.some_beq_some, Bool.and_self, List.size_toArray, cond_true, cond_false, beq_true, beq_false, bne_self_eq_false, List.append_eq, hjl, take_all hj hjl, hb, List.length_map, lof_getD hx, hz, hpre.1, hpre.2.1, hpre.2.2.1, hpre.2.2.2]
              rw [hsu, e, List.map_append, List.map_append]
              have hfl := R6.followsR_length hpre.2.1 l x
              clear hsu hq hs hos e
              simp only [List.map_cons, List.map_nil]
              (repeat' (first | (rw [InK_i64]; omega) | (rw [InK_u8]; omega) | (rw [InK_u64]; omega) | omega | rfl | apply And.intro))
            · rw [Bool.not_eq_true] at hb
              have e : R6.opStepR n l s qs x = qs := by unfold R6.opStepR; rw [if_neg (by rw [hb]; decide)]
              simp only [go_sem, ↓reduceIte, Nat.reduceLT, Nat.reduceLeDiff, Nat.reduceEqDiff, Nat.reduceAdd, Nat.reduceMul, Nat.reduceBEq, reduceCtorEq, Int.reduceLT, Int.reduceLE, Int.reduceEq, Int.reduceNe, Int.reduceBEq, Int.reduceBNe, Int.reduceAdd, Int.reduceSub, Int.reduceNeg, Int.reduceToNat, beq_self_eq_true, Option.all_some, Option.all_none, Option.some_beq_some, Bool.and_self, List.size_toArray, cond_true, cond_false, beq_true, beq_false, bne_self_eq_false, List.append_eq, hjl, take_all hj hjl, hb, List.length_map]
              rw [hsu, e]
              clear hsu hq hs hos e
              (repeat' (first | (rw [InK_i64]; omega) | (rw [InK_u8]; omega) | (rw [InK_u64]; omega) | omega | rfl | apply And.intro))
        · rw [Bool.not_eq_true] at h2
          have hb : R6.isR l s x = true := by simp [R6.isR, h2, h1]
          simp only [go_sem, ↓reduceIte, Nat.reduceLT, Nat.reduceLeDiff, Nat.reduceEqDiff, Nat.reduceAdd, Nat.reduceMul, Nat.reduceBEq, reduceCtorEq, Int.reduceLT, Int.reduceLE, Int.reduceEq, Int.reduceNe, Int.reduceBEq, Int.reduceBNe, Int.reduceAdd, Int.reduceSub, Int.reduceNeg, Int.reduceToNat, beq_self_eq_true, Option.all_some, Option.all_none, Option.some_beq_some, Bool.and_self, List.size_toArray, cond_true, cond_false, beq_true, beq_false, bne_self_eq_false, List.append_eq, hlt, lof_getD hx, hz, hpre.2.2.1, hpre.2.2.2, h2, h1, show ((x.length : Int) == (s : Int)) = true by simp [h1]]
          refine ⟨by unfold sz; omega, ?_⟩
          rw [show (PV.val (Value.bool true)) = boolP (R6.isR l s x) by rw [hb]]
          refine vfor [1,4,5,6,7,8,9,10] [4,5] [] qs.length (fun j => True) (fun j => ⟨[(1,.p (.ref [intP n, sents l] 0)),(4,.sl 4),(5,.sl 5),(6,.p (rowsP (R6.setsA n))),(7,.p (natP s)),(8,.p (natP k)),(9,.p (boolP (R6.isR l s x && (qs.take j).all (R6.openAt x)))),(10,.p (natP j))], [(4, .vec 25 1 (lof ints (qs.map (·.1)))), (5, .vec 25 1 (lof ints (qs.map (·.2))))]⟩) (by first | rfl | (simp only [go_sem, ↓reduceIte, Nat.reduceLT, Nat.reduceLeDiff, Nat.reduceEqDiff, Nat.reduceAdd, Nat.reduceMul, Nat.reduceBEq, reduceCtorEq, Int.reduceLT, Int.reduceLE, Int.reduceEq, Int.reduceNe, Int.reduceBEq, Int.reduceBNe, Int.reduceAdd, Int.reduceSub, Int.reduceNeg, Int.reduceToNat, beq_self_eq_true, Option.all_some, Option.all_none, Option.some_beq_some, Bool.and_self, List.size_toArray, cond_true, cond_false, beq_true, beq_false, bne_self_eq_false, List.append_eq, List.take_zero, List.all_nil, Bool.and_true]; first | done | rfl)) trivial ?_
          clear hb
          have hlen := hok2.len
          intro j hj _
          by_cases hjl : j < qs.length
          · obtain ⟨o, ho⟩ := get_some hjl
            have hor := hok2.row o (List.mem_of_getElem? ho)
            have ho1 : (qs.map (·.1))[j]? = some o.1 := by simp [ho]
            have ho2 : (qs.map (·.2))[j]? = some o.2 := by simp [ho]
            have z1 : sz o.1.length := by unfold sz; omega
            have z2 : sz o.2.length := by unfold sz; omega
            by_cases hb : (R6.isR l s x && (qs.take j).all (R6.openAt x)) = true
            · have hb' := hb
              rw [Bool.and_eq_true] at hb'
              by_cases p1 : R6.part o.1 x = true
              · simp only [go_sem, ↓reduceIte, Nat.reduceLT, Nat.reduceLeDiff, Nat.reduceEqDiff, Nat.reduceAdd, Nat.reduceMul, Nat.reduceBEq, reduceCtorEq, Int.reduceLT, Int.reduceLE, Int.reduceEq, Int.reduceNe, Int.reduceBEq, Int.reduceBNe, Int.reduceAdd, Int.reduceSub, Int.reduceNeg, Int.reduceToNat, beq_self_eq_true, Option.all_some, Option.all_none, Option.some_beq_some, Bool.and_self, List.size_toArray, cond_true, cond_false, beq_true, beq_false, bne_self_eq_false, List.append_eq, hjl, hb, List.length_map, lof_getD hx, lof_getD ho1, lof_getD ho2, p1, hz, z1, z2]
                have e : (R6.isR l s x && (qs.take (j + 1)).all (R6.openAt x)) = R6.part o.2 x := by rw [R6.take_succ_of ho, List.all_append, hb'.1, hb'.2]; simp [R6.openAt, p1]
                rw [e]
                clear hsu hq hs hos
                (repeat' (first | (rw [InK_i64]; omega) | (rw [InK_u8]; omega) | (rw [InK_u64]; omega) | omega | rfl | apply And.intro))
              · rw [Bool.not_eq_true] at p1
                simp only [go_sem, ↓reduceIte, Nat.reduceLT, Nat.reduceLeDiff, Nat.reduceEqDiff, Nat.reduceAdd, Nat.reduceMul, Nat.reduceBEq, reduceCtorEq, Int.reduceLT, Int.reduceLE, Int.reduceEq, Int.reduceNe, Int.reduceBEq, Int.reduceBNe, Int.reduceAdd, Int.reduceSub, Int.reduceNeg, Int.reduceToNat, beq_self_eq_true, Option.all_some, Option.all_none, Option.some_beq_some, Bool.and_self, List.size_toArray, cond_true, cond_false, beq_true, beq_false, bne_self_eq_false, List.append_eq, hjl, hb, List.length_map, lof_getD hx, lof_getD ho1, lof_getD ho2, p1, hz, z1, z2]
                have e : (R6.isR l s x && (qs.take (j + 1)).all (R6.openAt x)) = true := by rw [R6.take_succ_of ho, List.all_append, hb'.1, hb'.2]; simp [R6.openAt, p1]
                rw [e]
                clear hsu hq hs hos
                (repeat' (first | (rw [InK_i64]; omega) | (rw [InK_u8]; omega) | (rw [InK_u64]; omega) | omega | rfl | apply And.intro))
            · rw [Bool.not_eq_true] at hb
              have e : R6.opStepR n l s qs x = qs := R6.opStepR_no hb
              simp only [go_sem, ↓reduceIte, Nat.reduceLT, Nat.reduceLeDiff, Nat.reduceEqDiff, Nat.reduceAdd, Nat.reduceMul, Nat.reduceBEq, reduceCtorEq, Int.reduceLT, Int.reduceLE, Int.reduceEq, Int.reduceNe, Int.reduceBEq, Int.reduceBNe, Int.reduceAdd, Int.reduceSub, Int.reduceNeg, Int.reduceToNat, beq_self_eq_true, Option.all_some, Option.all_none, Option.some_beq_some, Bool.and_self, List.size_toArray, cond_true, cond_false, beq_true, beq_false, bne_self_eq_false, List.append_eq, hjl, hb, List.length_map]
              rw [hsu, e]
              clear hsu hq hs hos e
              (repeat' (first | (rw [InK_i64]; omega) | (rw [InK_u8]; omega) | (rw [InK_u64]; omega) | omega | rfl | apply And.intro))
          · by_cases hb : (R6.isR l s x && qs.all (R6.openAt x)) = true
            · have e : R6.opStepR n l s qs x = qs ++ [(x, R6.followsR n l x)] := by unfold R6.opStepR; rw [if_pos hb]
              simp only [go_sem, ↓reduceIte, Nat.reduceLT, Nat.reduceLeDiff, Nat.reduceEqDiff, Nat.reduceAdd, Nat.reduceMul, Nat.reduceBEq, reduceCtorEq, Int.reduceLT, Int.reduceLE, Int.reduceEq, Int.reduceNe, Int.reduceBEq, Int.reduceBNe, Int.reduceAdd, Int.reduceSub, Int.reduceNeg, Int.reduceToNat, beq_self_eq_true, Option.all_some, Option.all_none, Option.some_beq_some, Bool.and_self, List.size_toArray, cond_true, cond_false, beq_true, beq_false, bne_self_eq_false, List.append_eq, hjl, take_all hj hjl, hb, List.length_map, lof_getD hx, hz, hpre.1, hpre.2.1, hpre.2.2.1, hpre.2.2.2]
              rw [hsu, e, List.map_append, List.map_append]
              have hfl := R6.followsR_length hpre.2.1 l x
              clear hsu hq hs hos e
              simp only [List.map_cons, List.map_nil]
              (repeat' (first | (rw [InK_i64]; omega) | (rw [InK_u8]; omega) | (rw [InK_u64]; omega) | omega | rfl | apply And.intro))
            · rw [Bool.not_eq_true] at hb
              have e : R6.opStepR n l s qs x = qs := by unfold R6.opStepR; rw [if_neg (by rw [hb]; decide)]
              simp only [go_sem, ↓reduceIte, Nat.reduceLT, Nat.reduceLeDiff, Nat.reduceEqDiff, Nat.reduceAdd, Nat.reduceMul, Nat.reduceBEq, reduceCtorEq, Int.reduceLT, Int.reduceLE, Int.reduceEq, Int.reduceNe, Int.reduceBEq, Int.reduceBNe, Int.reduceAdd, Int.reduceSub, Int.reduceNeg, Int.reduceToNat, beq_self_eq_true, Option.all_some, Option.all_none, Option.some_beq_some, Bool.and_self, List.size_toArray, cond_true, cond_false, beq_true, beq_false, bne_self_eq_false, List.append_eq, hjl, take_all hj hjl, hb, List.length_map]
              rw [hsu, e]
              clear hsu hq hs hos e
              (repeat' (first | (rw [InK_i64]; omega) | (rw [InK_u8]; omega) | (rw [InK_u64]; omega) | omega | rfl | apply And.intro))
      · have hb : R6.isR l s x = false := by simp [R6.isR, h1]
        simp only [go_sem, ↓reduceIte, Nat.reduceLT, Nat.reduceLeDiff, Nat.reduceEqDiff, Nat.reduceAdd, Nat.reduceMul, Nat.reduceBEq, reduceCtorEq, Int.reduceLT, Int.reduceLE, Int.reduceEq, Int.reduceNe, Int.reduceBEq, Int.reduceBNe, Int.reduceAdd, Int.reduceSub, Int.reduceNeg, Int.reduceToNat, beq_self_eq_true, Option.all_some, Option.all_none, Option.some_beq_some, Bool.and_self, List.size_toArray, cond_true, cond_false, beq_true, beq_false, bne_self_eq_false, List.append_eq, hlt, lof_getD hx, hz, hpre.2.2.1, hpre.2.2.2, show ((x.length : Int) == (s : Int)) = false by simp; omega]
        rw [show (PV.val (Value.bool false)) = boolP (R6.isR l s x) by rw [hb]]
        refine vfor [1,4,5,6,7,8,9,10] [4,5] [] qs.length (fun j => True) (fun j => ⟨[(1,.p (.ref [intP n, sents l] 0)),(4,.sl 4),(5,.sl 5),(6,.p (rowsP (R6.setsA n))),(7,.p (natP s)),(8,.p (natP k)),(9,.p (boolP (R6.isR l s x && (qs.take j).all (R6.openAt x)))),(10,.p (natP j))], [(4, .vec 25 1 (lof ints (qs.map (·.1)))), (5, .vec 25 1 (lof ints (qs.map (·.2))))]⟩) (by first | rfl | (simp only [go_sem, ↓reduceIte, Nat.reduceLT, Nat.reduceLeDiff, Nat.reduceEqDiff, Nat.reduceAdd, Nat.reduceMul, Nat.reduceBEq, reduceCtorEq, Int.reduceLT, Int.reduceLE, Int.reduceEq, Int.reduceNe, Int.reduceBEq, Int.reduceBNe, Int.reduceAdd, Int.reduceSub, Int.reduceNeg, Int.reduceToNat, beq_self_eq_true, Option.all_some, Option.all_none, Option.some_beq_some, Bool.and_self, List.size_toArray, cond_true, cond_false, beq_true, beq_false, bne_self_eq_false, List.append_eq, List.take_zero, List.all_nil, Bool.and_true]; first | done | rfl)) trivial ?_
        clear hb
        have hlen := hok2.len
        intro j hj _
        by_cases hjl : j < qs.length
        · obtain ⟨o, ho⟩ := get_some hjl
          have hor := hok2.row o (List.mem_of_getElem? ho)
          have ho1 : (qs.map (·.1))[j]? = some o.1 := by simp [ho]
          have ho2 : (qs.map (·.2))[j]? = some o.2 := by simp [ho]
          have z1 : sz o.1.length := by unfold sz; omega
          have z2 : sz o.2.length := by unfold sz; omega
          by_cases hb : (R6.isR l s x && (qs.take j).all (R6.openAt x)) = true
          · have hb' := hb
            rw [Bool.and_eq_true] at hb'
            by_cases p1 : R6.part o.1 x = true
            · simp only [go_sem, ↓reduceIte, Nat.reduceLT, Nat.reduceLeDiff, Nat.reduceEqDiff, Nat.reduceAdd, Nat.reduceMul, Nat.reduceBEq, reduceCtorEq, Int.reduceLT, Int.reduceLE, Int.reduceEq, Int.reduceNe, Int.reduceBEq, Int.reduceBNe, Int.reduceAdd, Int.reduceSub, Int.reduceNeg, Int.reduceToNat, beq_self_eq_true, Option.all_some, Option.all_none, Option.some_beq_some, Bool.and_self, List.size_toArray, cond_true, cond_false, beq_true, beq_false, bne_self_eq_false, List.append_eq, hjl, hb, List.length_map, lof_getD hx, lof_getD ho1, lof_getD ho2, p1, hz, z1, z2]
              have e : (R6.isR l s x && (qs.take (j + 1)).all (R6.openAt x)) = R6.part o.2 x := by rw [R6.take_succ_of ho, List.all_append, hb'.1, hb'.2]; simp [R6.openAt, p1]
              rw [e]
              clear hsu hq hs hos
              (repeat' (first | (rw [InK_i64]; omega) | (rw [InK_u8]; omega) | (rw [InK_u64]; omega) | omega | rfl | apply And.intro))
            · rw [Bool.not_eq_true] at p1
              simp only [go_sem, ↓reduceIte, Nat.reduceLT, Nat.reduceLeDiff, Nat.reduceEqDiff, Nat.reduceAdd, Nat.reduceMul, Nat.reduceBEq, reduceCtorEq, Int.reduceLT, Int.reduceLE, Int.reduceEq, Int.reduceNe, Int.reduceBEq, Int.reduceBNe, Int.reduceAdd, Int.reduceSub, Int.reduceNeg, Int.reduceToNat, beq_self_eq_true, Option.all_some, Option.all_none, Option.some_beq_some, Bool.and_self, List.size_toArray, cond_true, cond_false, beq_true, beq_false, bne_self_eq_false, List.append_eq, hjl, hb, List.length_map, lof_getD hx, lof_getD ho1, lof_getD ho2, p1, hz, z1, z2]
              have e : (R6.isR l s x && (qs.take (j + 1)).all (R6.openAt x)) = true := by rw [R6.take_succ_of ho, List.all_append, hb'.1, hb'.2]; simp [R6.openAt, p1]
              rw [e]
              clear hsu hq hs hos
              (repeat' (first | (rw [InK_i64]; omega) | (rw [InK_u8]; omega) | (rw [InK_u64]; omega) | omega | rfl | apply And.intro))
          · rw [Bool.not_eq_true] at hb
            have e : R6.opStepR n l s qs x = qs := R6.opStepR_no hb
            simp only [go_sem, ↓reduceIte, Nat.reduceLT, Nat.reduceLeDiff, Nat.reduceEqDiff, Nat.reduceAdd, Nat.reduceMul, Nat.reduceBEq, reduceCtorEq, Int.reduceLT, Int.reduceLE, Int.reduceEq, Int.reduceNe, Int.reduceBEq, Int.reduceBNe, Int.reduceAdd, Int.reduceSub, Int.reduceNeg, Int.reduceToNat, beq_self_eq_true, Option.all_some, Option.all_none, Option.some_beq_some, Bool.and_self, List.size_toArray, cond_true, cond_false, beq_true, beq_false, bne_self_eq_false, List.append_eq, hjl, hb, List.length_map]
            rw [hsu, e]
            clear hsu hq hs hos e
            (repeat' (first | (rw [InK_i64]; omega) | (rw [InK_u8]; omega) | (rw [InK_u64]; omega) | omega | rfl | apply And.intro))
        · by_cases hb : (R6.isR l s x && qs.all (R6.openAt x)) = true
          · have e : R6.opStepR n l s qs x = qs ++ [(x, R6.followsR n l x)] := by unfold R6.opStepR; rw [if_pos hb]
            simp only [go_sem, ↓reduceIte, Nat.reduceLT, Nat.reduceLeDiff, Nat.reduceEqDiff, Nat.reduceAdd, Nat.reduceMul, Nat.reduceBEq, reduceCtorEq, Int.reduceLT, Int.reduceLE, Int.reduceEq, Int.reduceNe, Int.reduceBEq, Int.reduceBNe, Int.reduceAdd, Int.reduceSub, Int.reduceNeg, Int.reduceToNat, beq_self_eq_true, Option.all_some, Option.all_none, Option.some_beq_some, Bool.and_self, List.size_toArray, cond_true, cond_false, beq_true, beq_false, bne_self_eq_false, List.append_eq, hjl, take_all hj hjl, hb, List.length_map, lof_getD hx, hz, hpre.1, hpre.2.1, hpre.2.2.1, hpre.2.2.2]
            rw [hsu, e, List.map_append, List.map_append]
            have hfl := R6.followsR_length hpre.2.1 l x
            clear hsu hq hs hos e
            simp only [List.map_cons, List.map_nil]
            (repeat' (first | (rw [InK_i64]; omega) | (rw [InK_u8]; omega) | (rw [InK_u64]; omega) | omega | rfl | apply And.intro))
          · rw [Bool.not_eq_true] at hb
            have e : R6.opStepR n l s qs x = qs := by unfold R6.opStepR; rw [if_neg (by rw [hb]; decide)]
            simp only [go_sem, ↓reduceIte, Nat.reduceLT, Nat.reduceLeDiff, Nat.reduceEqDiff, Nat.reduceAdd, Nat.reduceMul, Nat.reduceBEq, reduceCtorEq, Int.reduceLT, Int.reduceLE, Int.reduceEq, Int.reduceNe, Int.reduceBEq, Int.reduceBNe, Int.reduceAdd, Int.reduceSub, Int.reduceNeg, Int.reduceToNat, beq_self_eq_true, Option.all_some, Option.all_none, Option.some_beq_some, Bool.and_self, List.size_toArray, cond_true, cond_false, beq_true, beq_false, bne_self_eq_false, List.append_eq, hjl, take_all hj hjl, hb, List.length_map]
            rw [hsu, e]
            clear hsu hq hs hos e
            (repeat' (first | (rw [InK_i64]; omega) | (rw [InK_u8]; omega) | (rw [InK_u64]; omega) | omega | rfl | apply And.intro))
    · simp only [go_sem, ↓reduceIte, Nat.reduceLT, Nat.reduceLeDiff, Nat.reduceEqDiff, Nat.reduceAdd, Nat.reduceMul, Nat.reduceBEq, reduceCtorEq, Int.reduceLT, Int.reduceLE, Int.reduceEq, Int.reduceNe, Int.reduceBEq, Int.reduceBNe, Int.reduceAdd, Int.reduceSub, Int.reduceNeg, Int.reduceToNat, beq_self_eq_true, Option.all_some, Option.all_none, Option.some_beq_some, Bool.and_self, List.size_toArray, cond_true, cond_false, beq_true, beq_false, bne_self_eq_false, List.append_eq, hlt]
      have ek : k = (R6.setsA n).length := by omega
      have eu : R6.opUptoR n l (s + 1) = R6.opRowR n l s os k := by rw [ek, ← hos]; exact R6.opUptoR_succ n l s
      rw [eu]
      clear hs hos
      (repeat' (first | (rw [InK_i64]; omega) | (rw [InK_u8]; omega) | (rw [InK_u64]; omega) | omega | rfl | apply And.intro))
  · simp only [go_sem, ↓reduceIte, Nat.reduceLT, Nat.reduceLeDiff, Nat.reduceEqDiff, Nat.reduceAdd, Nat.reduceMul, Nat.reduceBEq, reduceCtorEq, Int.reduceLT, Int.reduceLE, Int.reduceEq, Int.reduceNe, Int.reduceBEq, Int.reduceBNe, Int.reduceAdd, Int.reduceSub, Int.reduceNeg, Int.reduceToNat, beq_self_eq_true, Option.all_some, Option.all_none, Option.some_beq_some, Bool.and_self, List.size_toArray, cond_true, cond_false, beq_true, beq_false, bne_self_eq_false, List.append_eq, hle]
    have e : R6.opensR n l = R6.opUptoR n l s := by rw [show s = n.toNat + 1 by omega]; rfl
    rw [e]
    exact ex_le_refl rfl
noncomputable def tab_opens6R : Tab := tabOf (fun p : (Int) × (List (List Int × List Int)) => match p with | (n, l) => [bookP n l]) (fun p : (Int) × (List (List Int × List Int)) => match p with | (n, l) => 0 ≤ n ∧ n ≤ 6 ∧ BkOK l ∧ sz l.length) (fun p : (Int) × (List (List Int × List Int)) => match p with | (n, l) => .tuple [rowsP ((R6.opensR n l).map (·.1)), rowsP ((R6.opensR n l).map (·.2))])
theorem tab_opens6R_eq (n : Int) (l : List (List Int × List Int)) : tab_opens6R [bookP n l] = some (0 ≤ n ∧ n ≤ 6 ∧ BkOK l ∧ sz l.length, .p (.tuple [rowsP ((R6.opensR n l).map (·.1)), rowsP ((R6.opensR n l).map (·.2))])) := tabOf_eq (enc := fun p : (Int) × (List (List Int × List Int)) => match p with | (n, l) => [bookP n l]) (pre := fun p : (Int) × (List (List Int × List Int)) => match p with | (n, l) => 0 ≤ n ∧ n ≤ 6 ∧ BkOK l ∧ sz l.length) (out := fun p : (Int) × (List (List Int × List Int)) => match p with | (n, l) => .tuple [rowsP ((R6.opensR n l).map (·.1)), rowsP ((R6.opensR n l).map (·.2))]) (by rintro ⟨n, l⟩ ⟨n', l'⟩ h; simp at h; first | (simp [h]; done) | omega | (simp [h]; omega)) (n, l)
theorem tab_opens6R_ok : TabOK Tryz.prog 43 tab_opens6R := tabOf_ok (by rintro ⟨n, l⟩ h; exact opens6R_spec n l h)
noncomputable abbrev ent_opens6R : FuncId × List Nat × Tab := (43, [2], tab_opens6R)
attribute [go_sem] tab_opens6R_eq

theorem at6_spec (L : List (List Int)) (set : List Int) (hpre : sz L.length ∧ (∀ r ∈ L, sz r.length) ∧ sz set.length) : Ret Tryz.prog 44 [rowsP L, ints set] (intP (R6.atR L set)) := by
  refine fn_of (T := [ent_part6]) (N := 29) (RO := []) (CH := []) (KS := [0, 1, 4, 5, 9, 27]) (NS := []) (fun args w => Tryz.call44 args w) Tryz.func44 rfl rfl (by simp) mixed (by kernel_rfl) ⟨tab_part6_ok, trivial⟩ ?_
  simp only [go_sem, ↓reduceIte, Nat.reduceLT, Nat.reduceLeDiff, Nat.reduceEqDiff, Nat.reduceAdd, Nat.reduceMul, Nat.reduceBEq, reduceCtorEq, Int.reduceLT, Int.reduceLE, Int.reduceEq, Int.reduceNe, Int.reduceBEq, Int.reduceBNe, Int.reduceAdd, Int.reduceSub, Int.reduceNeg, Int.reduceToNat, beq_self_eq_true, Option.all_some, Option.all_none, Option.some_beq_some, Bool.and_self, List.size_toArray, cond_true, cond_false, beq_true, beq_false, bne_self_eq_false, List.append_eq]
  refine vfor [0,1,5] [] [] L.length (fun k => ∀ i, i < k → R6.atP L set i = false) (fun k => ⟨[(0,.p (rowsP L)),(1,.p (ints set)),(5,.p (natP k))], []⟩) rfl (by simp) ?_
  intro k hk hI
  by_cases hlt : k < L.length
  · obtain ⟨x, hx⟩ := get_some hlt
    have hxz := hpre.2.1 x (List.mem_of_getElem? hx)
    have hxd : L.getD k [] = x := by simp [hx]
    by_cases h1 : x.length = set.length
    · by_cases h2 : R6.part x set = true
      · have hp : R6.atP L set k = true := by simp only [R6.atP, hxd, h1, h2]; simp
        simp only [go_sem, ↓reduceIte, Nat.reduceLT, Nat.reduceLeDiff, Nat.reduceEqDiff, Nat.reduceAdd, Nat.reduceMul, Nat.reduceBEq, reduceCtorEq, Int.reduceLT, Int.reduceLE, Int.reduceEq, Int.reduceNe, Int.reduceBEq, Int.reduceBNe, Int.reduceAdd, Int.reduceSub, Int.reduceNeg, Int.reduceToNat, beq_self_eq_true, Option.all_some, Option.all_none, Option.some_beq_some, Bool.and_self, List.size_toArray, cond_true, cond_false, beq_true, beq_false, bne_self_eq_false, List.append_eq, hlt, lof_getD hx, hxz, hpre.2.2, h1, h2]
        exact ex_le_refl (by rw [R6.atR_hit hI hlt hp])
      · rw [Bool.not_eq_true] at h2
        have hp : R6.atP L set k = false := by simp only [R6.atP, hxd, h1, h2]; simp
        have := R6.below_succ hI hp
        simp only [go_sem, ↓reduceIte, Nat.reduceLT, Nat.reduceLeDiff, Nat.reduceEqDiff, Nat.reduceAdd, Nat.reduceMul, Nat.reduceBEq, reduceCtorEq, Int.reduceLT, Int.reduceLE, Int.reduceEq, Int.reduceNe, Int.reduceBEq, Int.reduceBNe, Int.reduceAdd, Int.reduceSub, Int.reduceNeg, Int.reduceToNat, beq_self_eq_true, Option.all_some, Option.all_none, Option.some_beq_some, Bool.and_self, List.size_toArray, cond_true, cond_false, beq_true, beq_false, bne_self_eq_false, List.append_eq, hlt, lof_getD hx, hxz, hpre.2.2, h1, h2]
        (repeat' (first | assumption | (rw [InK_i64]; omega) | (rw [InK_u8]; omega) | (rw [InK_u64]; omega) | omega | rfl | apply And.intro))
    · have hp : R6.atP L set k = false := by simp only [R6.atP, hxd]; simp [h1]
      have := R6.below_succ hI hp
      simp only [go_sem, ↓reduceIte, Nat.reduceLT, Nat.reduceLeDiff, Nat.reduceEqDiff, Nat.reduceAdd, Nat.reduceMul, Nat.reduceBEq, reduceCtorEq, Int.reduceLT, Int.reduceLE, Int.reduceEq, Int.reduceNe, Int.reduceBEq, Int.reduceBNe, Int.reduceAdd, Int.reduceSub, Int.reduceNeg, Int.reduceToNat, beq_self_eq_true, Option.all_some, Option.all_none, Option.some_beq_some, Bool.and_self, List.size_toArray, cond_true, cond_false, beq_true, beq_false, bne_self_eq_false, List.append_eq, hlt, lof_getD hx, hxz, hpre.2.2, show ((x.length : Int) == (set.length : Int)) = false by simp; omega]
      (repeat' (first | assumption | (rw [InK_i64]; omega) | (rw [InK_u8]; omega) | (rw [InK_u64]; omega) | omega | rfl | apply And.intro))
  · simp only [go_sem, ↓reduceIte, Nat.reduceLT, Nat.reduceLeDiff, Nat.reduceEqDiff, Nat.reduceAdd, Nat.reduceMul, Nat.reduceBEq, reduceCtorEq, Int.reduceLT, Int.reduceLE, Int.reduceEq, Int.reduceNe, Int.reduceBEq, Int.reduceBNe, Int.reduceAdd, Int.reduceSub, Int.reduceNeg, Int.reduceToNat, beq_self_eq_true, Option.all_some, Option.all_none, Option.some_beq_some, Bool.and_self, List.size_toArray, cond_true, cond_false, beq_true, beq_false, bne_self_eq_false, List.append_eq, hlt]
    obtain rfl : k = L.length := by omega
    exact ex_le_refl (by rw [R6.atR_none hI])
noncomputable def tab_at6 : Tab := tabOf (fun p : (List (List Int)) × (List Int) => match p with | (L, set) => [rowsP L, ints set]) (fun p : (List (List Int)) × (List Int) => match p with | (L, set) => sz L.length ∧ (∀ r ∈ L, sz r.length) ∧ sz set.length) (fun p : (List (List Int)) × (List Int) => match p with | (L, set) => intP (R6.atR L set))
theorem tab_at6_eq (L : List (List Int)) (set : List Int) : tab_at6 [rowsP L, ints set] = some (sz L.length ∧ (∀ r ∈ L, sz r.length) ∧ sz set.length, .p (intP (R6.atR L set))) := tabOf_eq (enc := fun p : (List (List Int)) × (List Int) => match p with | (L, set) => [rowsP L, ints set]) (pre := fun p : (List (List Int)) × (List Int) => match p with | (L, set) => sz L.length ∧ (∀ r ∈ L, sz r.length) ∧ sz set.length) (out := fun p : (List (List Int)) × (List Int) => match p with | (L, set) => intP (R6.atR L set)) (by rintro ⟨L, set⟩ ⟨L', set'⟩ h; simp at h; first | (simp [h]; done) | omega | (simp [h]; omega)) (L, set)
theorem tab_at6_ok : TabOK Tryz.prog 44 tab_at6 := tabOf_ok (by rintro ⟨L, set⟩ h; exact at6_spec L set h)
noncomputable abbrev ent_at6 : FuncId × List Nat × Tab := (44, [1, 1], tab_at6)
attribute [go_sem] tab_at6_eq
theorem opens_len {n : Int} (hn : n ≤ 6) (l : List (List Int × List Int)) : sz (R6.opensR n l).length ∧ ∀ o ∈ R6.opensR n l, o.1.length ≤ 6 ∧ o.2.length ≤ 6 := by
  have h := R6.OpsOK.upto hn l (n.toNat + 1)
  exact ⟨by have := h.len; unfold sz R6.opensR; omega, h.row⟩
theorem Open6_spec (n : Int) (l : List (List Int × List Int)) (set : List Int) (hpre : BkOK l ∧ sz l.length ∧ sz set.length) : Ret Tryz.prog 10 [bookP n l, ints set] (.tuple [boolP (decide (R6.asked n l set = 0) && decide (0 ≤ R6.atR ((R6.opensR n l).map (·.1)) set)), errP (R6.asked n l set)]) := by
  refine fn_of (T := [ent_asked6, ent_opens6R, ent_at6]) (N := 24) (RO := [2]) (CH := []) (KS := [0, 1, 2, 4, 5, 6, 7, 13]) (NS := []) (fun args w => Tryz.call10 args w) Tryz.func10 rfl rfl (by simp) mixed (by kernel_rfl) ⟨tab_asked6_ok, tab_opens6R_ok, tab_at6_ok, trivial⟩ ?_
  simp only [go_sem, ↓reduceIte, Nat.reduceLT, Nat.reduceLeDiff, Nat.reduceEqDiff, Nat.reduceAdd, Nat.reduceMul, Nat.reduceBEq, reduceCtorEq, Int.reduceLT, Int.reduceLE, Int.reduceEq, Int.reduceNe, Int.reduceBEq, Int.reduceBNe, Int.reduceAdd, Int.reduceSub, Int.reduceNeg, Int.reduceToNat, beq_self_eq_true, Option.all_some, Option.all_none, Option.some_beq_some, Bool.and_self, List.size_toArray, cond_true, cond_false, beq_true, beq_false, bne_self_eq_false, List.append_eq]
  refine ⟨⟨hpre.1, hpre.2.2⟩, ?_⟩
  by_cases h : R6.asked n l set = 0
  · have hn := R6.asked_range h
    have ho := opens_len hn.2 l
    simp only [go_sem, ↓reduceIte, Nat.reduceLT, Nat.reduceLeDiff, Nat.reduceEqDiff, Nat.reduceAdd, Nat.reduceMul, Nat.reduceBEq, reduceCtorEq, Int.reduceLT, Int.reduceLE, Int.reduceEq, Int.reduceNe, Int.reduceBEq, Int.reduceBNe, Int.reduceAdd, Int.reduceSub, Int.reduceNeg, Int.reduceToNat, beq_self_eq_true, Option.all_some, Option.all_none, Option.some_beq_some, Bool.and_self, List.size_toArray, cond_true, cond_false, beq_true, beq_false, bne_self_eq_false, List.append_eq, h]
    refine ⟨⟨by omega, hn.2, hpre.1, hpre.2.1⟩, ⟨by rw [List.length_map]; exact ho.1, fun r hr => ?_, hpre.2.2⟩, ex_le_refl rfl⟩
    obtain ⟨o, h1, rfl⟩ := List.mem_map.1 hr
    have := (ho.2 o h1).1
    show sz o.1.length
    unfold sz; omega
  · simp only [go_sem, ↓reduceIte, Nat.reduceLT, Nat.reduceLeDiff, Nat.reduceEqDiff, Nat.reduceAdd, Nat.reduceMul, Nat.reduceBEq, reduceCtorEq, Int.reduceLT, Int.reduceLE, Int.reduceEq, Int.reduceNe, Int.reduceBEq, Int.reduceBNe, Int.reduceAdd, Int.reduceSub, Int.reduceNeg, Int.reduceToNat, beq_self_eq_true, Option.all_some, Option.all_none, Option.some_beq_some, Bool.and_self, List.size_toArray, cond_true, cond_false, beq_true, beq_false, bne_self_eq_false, List.append_eq, show (R6.asked n l set != 0) = true by simp [h], h]
    exact ex_le_refl rfl
noncomputable def tab_Open6 : Tab := tabOf (fun p : (Int) × (List (List Int × List Int)) × (List Int) => match p with | (n, l, set) => [bookP n l, ints set]) (fun p : (Int) × (List (List Int × List Int)) × (List Int) => match p with | (n, l, set) => BkOK l ∧ sz l.length ∧ sz set.length) (fun p : (Int) × (List (List Int × List Int)) × (List Int) => match p with | (n, l, set) => .tuple [boolP (decide (R6.asked n l set = 0) && decide (0 ≤ R6.atR ((R6.opensR n l).map (·.1)) set)), errP (R6.asked n l set)])
theorem tab_Open6_eq (n : Int) (l : List (List Int × List Int)) (set : List Int) : tab_Open6 [bookP n l, ints set] = some (BkOK l ∧ sz l.length ∧ sz set.length, .p (.tuple [boolP (decide (R6.asked n l set = 0) && decide (0 ≤ R6.atR ((R6.opensR n l).map (·.1)) set)), errP (R6.asked n l set)])) := tabOf_eq (enc := fun p : (Int) × (List (List Int × List Int)) × (List Int) => match p with | (n, l, set) => [bookP n l, ints set]) (pre := fun p : (Int) × (List (List Int × List Int)) × (List Int) => match p with | (n, l, set) => BkOK l ∧ sz l.length ∧ sz set.length) (out := fun p : (Int) × (List (List Int × List Int)) × (List Int) => match p with | (n, l, set) => .tuple [boolP (decide (R6.asked n l set = 0) && decide (0 ≤ R6.atR ((R6.opensR n l).map (·.1)) set)), errP (R6.asked n l set)]) (by rintro ⟨n, l, set⟩ ⟨n', l', set'⟩ h; simp at h; first | (simp [h]; done) | omega | (simp [h]; omega)) (n, l, set)
theorem tab_Open6_ok : TabOK Tryz.prog 10 tab_Open6 := tabOf_ok (by rintro ⟨n, l, set⟩ h; exact Open6_spec n l set h)
noncomputable abbrev ent_Open6 : FuncId × List Nat × Tab := (10, [2, 1], tab_Open6)
attribute [go_sem] tab_Open6_eq

theorem Base6_spec (n : Int) (l : List (List Int × List Int)) (hpre : BkOK l ∧ sz l.length) : Ret Tryz.prog 12 [bookP n l] (.tuple [sents (if R6.check n l = 0 then R6.baseR n l else []), errP (R6.check n l)]) := by
  refine fn_of (T := [ent_check6, ent_opens6R, ent_at6, ent_has6, ent_sets6]) (N := 82) (RO := [1, 70, 79]) (CH := []) (KS := [0, 1, 2, 3, 4, 5, 6, 7, 8, 9, 10, 11, 12, 16, 29, 39, 46, 61]) (NS := [2, 5, 11, 71, 80]) (fun args w => Tryz.call12 args w) Tryz.func12 rfl rfl (by simp) mixed (by kernel_rfl) ⟨tab_check6_ok, tab_opens6R_ok, tab_at6_ok, tab_has6_ok, tabSets6_ok 7, trivial⟩ ?_
  simp only [go_sem, ↓reduceIte, Nat.reduceLT, Nat.reduceLeDiff, Nat.reduceEqDiff, Nat.reduceAdd, Nat.reduceMul, Nat.reduceBEq, reduceCtorEq, Int.reduceLT, Int.reduceLE, Int.reduceEq, Int.reduceNe, Int.reduceBEq, Int.reduceBNe, Int.reduceAdd, Int.reduceSub, Int.reduceNeg, Int.reduceToNat, beq_self_eq_true, Option.all_some, Option.all_none, Option.some_beq_some, Bool.and_self, List.size_toArray, cond_true, cond_false, beq_true, beq_false, bne_self_eq_false, List.append_eq]
  refine ⟨hpre.1, ?_⟩
  by_cases h : R6.check n l = 0
  · have hn := R6.check_range h
    have ho := opens_len hn.2 l
    have hs := tab_sets6_nil (show 0 ≤ n by omega) hn.2
    have hsl := setsA_length hn.2
    have hrow := R6.setsA_row hn.2
    simp only [go_sem, ↓reduceIte, Nat.reduceLT, Nat.reduceLeDiff, Nat.reduceEqDiff, Nat.reduceAdd, Nat.reduceMul, Nat.reduceBEq, reduceCtorEq, Int.reduceLT, Int.reduceLE, Int.reduceEq, Int.reduceNe, Int.reduceBEq, Int.reduceBNe, Int.reduceAdd, Int.reduceSub, Int.reduceNeg, Int.reduceToNat, beq_self_eq_true, Option.all_some, Option.all_none, Option.some_beq_some, Bool.and_self, List.size_toArray, cond_true, cond_false, beq_true, beq_false, bne_self_eq_false, List.append_eq, h, hs]
    refine ⟨⟨by omega, hn.2, hpre.1, hpre.2⟩, ?_⟩
    rw [R6.baseR]
    have hol : ((R6.opensR n l).map (·.1)).length = ((R6.opensR n l).map (·.2)).length := by simp
    have ho1 : sz ((R6.opensR n l).map (·.1)).length ∧ ∀ r ∈ (R6.opensR n l).map (·.1), sz r.length := ⟨by rw [List.length_map]; exact ho.1, fun r hr => by
      obtain ⟨o, h1, rfl⟩ := List.mem_map.1 hr
      have := (ho.2 o h1).1
      show sz o.1.length
      unfold sz; omega⟩
    have ho2 : ∀ r ∈ (R6.opensR n l).map (·.2), r.length ≤ 6 := fun r hr => by
      obtain ⟨o, h1, rfl⟩ := List.mem_map.1 hr
      exact (ho.2 o h1).2
    generalize (R6.opensR n l).map (·.1) = os at *
    generalize (R6.opensR n l).map (·.2) = fs at *
    clear hs ho
    generalize R6.setsA n = ss at *
    refine vfor [5,6,7,8,9] [5] [.nilS 5 43 2] ss.length (fun k => True) (fun k => ⟨[(5,.sl 5),(6,.p (rowsP os)),(7,.p (rowsP fs)),(8,.p (rowsP ss)),(9,.p (natP k))], [(5, .vec 43 2 (lof sentP ((ss.take k).filterMap (R6.baseItem os fs))))]⟩) (by first | rfl | (simp only [go_sem, ↓reduceIte, Nat.reduceLT, Nat.reduceLeDiff, Nat.reduceEqDiff, Nat.reduceAdd, Nat.reduceMul, Nat.reduceBEq, reduceCtorEq, Int.reduceLT, Int.reduceLE, Int.reduceEq, Int.reduceNe, Int.reduceBEq, Int.reduceBNe, Int.reduceAdd, Int.reduceSub, Int.reduceNeg, Int.reduceToNat, beq_self_eq_true, Option.all_some, Option.all_none, Option.some_beq_some, Bool.and_self, List.size_toArray, cond_true, cond_false, beq_true, beq_false, bne_self_eq_false, List.append_eq, List.take_zero, List.filterMap_nil]; first | done | rfl)) trivial ?_
    intro k hk _
    by_cases hlt : k < ss.length
    · obtain ⟨x, hx⟩ := get_some hlt
      have hxz := hrow x (List.mem_of_getElem? hx)
      have hz : sz x.length := by unfold sz; omega
      rcases R6.atR_range os x with ha | ⟨j, hj, ha, _⟩
      · simp only [go_sem, ↓reduceIte, Nat.reduceLT, Nat.reduceLeDiff, Nat.reduceEqDiff, Nat.reduceAdd, Nat.reduceMul, Nat.reduceBEq, reduceCtorEq, Int.reduceLT, Int.reduceLE, Int.reduceEq, Int.reduceNe, Int.reduceBEq, Int.reduceBNe, Int.reduceAdd, Int.reduceSub, Int.reduceNeg, Int.reduceToNat, beq_self_eq_true, Option.all_some, Option.all_none, Option.some_beq_some, Bool.and_self, List.size_toArray, cond_true, cond_false, beq_true, beq_false, bne_self_eq_false, List.append_eq, hlt, lof_getD hx, hz, ha, ho1.1]
        have e : R6.baseItem os fs x = none := by simp [R6.baseItem, ha]
        rw [R6.take_succ_of hx, List.filterMap_append]
        simp only [List.filterMap_cons, e, List.filterMap_nil, List.append_nil]
        exact ⟨ho1.2, by rw [InK_i64]; omega, rfl⟩
      · obtain ⟨y, hy⟩ := get_some (show j < fs.length by omega)
        have hjf : j < fs.length := by omega
        have hyz := ho2 y (List.mem_of_getElem? hy)
        have e : R6.baseItem os fs x = some (x, y.filter fun z => !(x.contains z)) := by
          unfold R6.baseItem
          rw [ha, if_neg (by omega)]
          simp [hy]
        have hmap : (ss.take (k + 1)).filterMap (R6.baseItem os fs) = (ss.take k).filterMap (R6.baseItem os fs) ++ [(x, y.filter fun z => !(x.contains z))] := by
          rw [R6.take_succ_of hx, List.filterMap_append]
          simp only [List.filterMap_cons, e, List.filterMap_nil]
        have hfl := Nat.le_trans (List.length_filterMap_le (R6.baseItem os fs) (ss.take k)) (show (ss.take k).length ≤ k by simp; omega)
        simp only [go_sem, ↓reduceIte, Nat.reduceLT, Nat.reduceLeDiff, Nat.reduceEqDiff, Nat.reduceAdd, Nat.reduceMul, Nat.reduceBEq, reduceCtorEq, Int.reduceLT, Int.reduceLE, Int.reduceEq, Int.reduceNe, Int.reduceBEq, Int.reduceBNe, Int.reduceAdd, Int.reduceSub, Int.reduceNeg, Int.reduceToNat, beq_self_eq_true, Option.all_some, Option.all_none, Option.some_beq_some, Bool.and_self, List.size_toArray, cond_true, cond_false, beq_true, beq_false, bne_self_eq_false, List.append_eq, hlt, lof_getD hx, hz, ha, ho1.1, show ¬ ((j : Int) < 0) by omega]
        refine ⟨ho1.2, ?_⟩
        refine vfor [5,6,7,8,9,10,11,12] [5,11] [.nilS 11 3 1] y.length (fun i => True) (fun i => ⟨[(5,.sl 5),(6,.p (rowsP os)),(7,.p (rowsP fs)),(8,.p (rowsP ss)),(9,.p (natP k)),(10,.p (natP j)),(11,.sl 11),(12,.p (natP i))], [(5, .vec 43 2 (lof sentP ((ss.take k).filterMap (R6.baseItem os fs)))),(11, .vec 3 1 (lof intP ((y.take i).filter fun z => !(x.contains z))))]⟩) (by first | rfl | (simp only [go_sem, ↓reduceIte, Nat.reduceLT, Nat.reduceLeDiff, Nat.reduceEqDiff, Nat.reduceAdd, Nat.reduceMul, Nat.reduceBEq, reduceCtorEq, Int.reduceLT, Int.reduceLE, Int.reduceEq, Int.reduceNe, Int.reduceBEq, Int.reduceBNe, Int.reduceAdd, Int.reduceSub, Int.reduceNeg, Int.reduceToNat, beq_self_eq_true, Option.all_some, Option.all_none, Option.some_beq_some, Bool.and_self, List.size_toArray, cond_true, cond_false, beq_true, beq_false, bne_self_eq_false, List.append_eq, List.take_zero, List.filter_nil]; first | done | rfl)) trivial ?_
        intro i hi _
        by_cases hil : i < y.length
        · obtain ⟨z, hzz⟩ := get_some hil
          have hf2 := Nat.le_trans (List.length_filter_le (fun z => !(x.contains z)) (y.take i)) (show (y.take i).length ≤ i by simp; omega)
          by_cases hc : x.contains z = true
          · simp only [go_sem, ↓reduceIte, Nat.reduceLT, Nat.reduceLeDiff, Nat.reduceEqDiff, Nat.reduceAdd, Nat.reduceMul, Nat.reduceBEq, reduceCtorEq, Int.reduceLT, Int.reduceLE, Int.reduceEq, Int.reduceNe, Int.reduceBEq, Int.reduceBNe, Int.reduceAdd, Int.reduceSub, Int.reduceNeg, Int.reduceToNat, beq_self_eq_true, Option.all_some, Option.all_none, Option.some_beq_some, Bool.and_self, List.size_toArray, cond_true, cond_false, beq_true, beq_false, bne_self_eq_false, List.append_eq, hlt, lof_getD hx, hz, lof_getD hy, hil, lof_getD hzz, hc]
            rw [R6.take_succ_of hzz, List.filter_append]
            simp only [List.filter_cons, hc, Bool.not_true, Bool.false_eq_true, if_false, List.filter_nil, List.append_nil]
            clear e hmap
            (repeat' (first | (rw [InK_i64]; omega) | (rw [InK_u8]; omega) | (rw [InK_u64]; omega) | omega | rfl | apply And.intro))
          · rw [Bool.not_eq_true] at hc
            simp only [go_sem, ↓reduceIte, Nat.reduceLT, Nat.reduceLeDiff, Nat.reduceEqDiff, Nat.reduceAdd, Nat.reduceMul, Nat.reduceBEq, reduceCtorEq, Int.reduceLT, Int.reduceLE, Int.reduceEq, Int.reduceNe, Int.reduceBEq, Int.reduceBNe, Int.reduceAdd, Int.reduceSub, Int.reduceNeg, Int.reduceToNat, beq_self_eq_true, Option.all_some, Option.all_none, Option.some_beq_some, Bool.and_self, List.size_toArray, cond_true, cond_false, beq_true, beq_false, bne_self_eq_false, List.append_eq, hlt, lof_getD hx, hz, lof_getD hy, hil, lof_getD hzz, hc]
            rw [R6.take_succ_of hzz, List.filter_append]
            simp only [List.filter_cons, hc, Bool.not_false, if_true, List.filter_nil]
            clear e hmap
            (repeat' (first | (rw [InK_i64]; omega) | (rw [InK_u8]; omega) | (rw [InK_u64]; omega) | omega | rfl | apply And.intro))
        · simp only [go_sem, ↓reduceIte, Nat.reduceLT, Nat.reduceLeDiff, Nat.reduceEqDiff, Nat.reduceAdd, Nat.reduceMul, Nat.reduceBEq, reduceCtorEq, Int.reduceLT, Int.reduceLE, Int.reduceEq, Int.reduceNe, Int.reduceBEq, Int.reduceBNe, Int.reduceAdd, Int.reduceSub, Int.reduceNeg, Int.reduceToNat, beq_self_eq_true, Option.all_some, Option.all_none, Option.some_beq_some, Bool.and_self, List.size_toArray, cond_true, cond_false, beq_true, beq_false, bne_self_eq_false, List.append_eq, hlt, lof_getD hx, hz, lof_getD hy, hil]
          rw [take_all hi hil, hmap]
          clear e hmap
          (repeat' (first | (rw [InK_i64]; omega) | (rw [InK_u8]; omega) | (rw [InK_u64]; omega) | omega | rfl | apply And.intro))
    · simp only [go_sem, ↓reduceIte, Nat.reduceLT, Nat.reduceLeDiff, Nat.reduceEqDiff, Nat.reduceAdd, Nat.reduceMul, Nat.reduceBEq, reduceCtorEq, Int.reduceLT, Int.reduceLE, Int.reduceEq, Int.reduceNe, Int.reduceBEq, Int.reduceBNe, Int.reduceAdd, Int.reduceSub, Int.reduceNeg, Int.reduceToNat, beq_self_eq_true, Option.all_some, Option.all_none, Option.some_beq_some, Bool.and_self, List.size_toArray, cond_true, cond_false, beq_true, beq_false, bne_self_eq_false, List.append_eq, hlt]
      rw [take_all hk hlt]
      exact ex_le_refl rfl
  · simp only [go_sem, ↓reduceIte, Nat.reduceLT, Nat.reduceLeDiff, Nat.reduceEqDiff, Nat.reduceAdd, Nat.reduceMul, Nat.reduceBEq, reduceCtorEq, Int.reduceLT, Int.reduceLE, Int.reduceEq, Int.reduceNe, Int.reduceBEq, Int.reduceBNe, Int.reduceAdd, Int.reduceSub, Int.reduceNeg, Int.reduceToNat, beq_self_eq_true, Option.all_some, Option.all_none, Option.some_beq_some, Bool.and_self, List.size_toArray, cond_true, cond_false, beq_true, beq_false, bne_self_eq_false, List.append_eq, show (R6.check n l != 0) = true by simp [h], h]
    refine ex_le ?_
    (repeat' (first | exact Le.refl _ | exact Le.nilS _ _ | exact Le.tight | refine Le.tuple ?_ | refine Le.agg ?_ | refine LeL.cons ?_ ?_ | exact LeL.nil))
noncomputable def tab_Base6 : Tab := tabOf (fun p : (Int) × (List (List Int × List Int)) => match p with | (n, l) => [bookP n l]) (fun p : (Int) × (List (List Int × List Int)) => match p with | (n, l) => BkOK l ∧ sz l.length) (fun p : (Int) × (List (List Int × List Int)) => match p with | (n, l) => .tuple [sents (if R6.check n l = 0 then R6.baseR n l else []), errP (R6.check n l)])
theorem tab_Base6_eq (n : Int) (l : List (List Int × List Int)) : tab_Base6 [bookP n l] = some (BkOK l ∧ sz l.length, .p (.tuple [sents (if R6.check n l = 0 then R6.baseR n l else []), errP (R6.check n l)])) := tabOf_eq (enc := fun p : (Int) × (List (List Int × List Int)) => match p with | (n, l) => [bookP n l]) (pre := fun p : (Int) × (List (List Int × List Int)) => match p with | (n, l) => BkOK l ∧ sz l.length) (out := fun p : (Int) × (List (List Int × List Int)) => match p with | (n, l) => .tuple [sents (if R6.check n l = 0 then R6.baseR n l else []), errP (R6.check n l)]) (by rintro ⟨n, l⟩ ⟨n', l'⟩ h; simp at h; first | (simp [h]; done) | omega | (simp [h]; omega)) (n, l)
theorem tab_Base6_ok : TabOK Tryz.prog 12 tab_Base6 := tabOf_ok (by rintro ⟨n, l⟩ h; exact Base6_spec n l h)
noncomputable abbrev ent_Base6 : FuncId × List Nat × Tab := (12, [2], tab_Base6)
attribute [go_sem] tab_Base6_eq
end Go.V
