/-
  Contract of the law SaysGone. Conditions: none.
-/
import Derived.Test.YthhfgcejamfinaaDoorC06d
import Derived.Test.YthhfgcejamfinaaDoorP6q
set_option linter.unusedVariables false
set_option linter.unusedSimpArgs false
set_option linter.deprecated false
namespace Go.V
open Go.Proofs
set_option maxRecDepth 100000
set_option maxHeartbeats 4000000

theorem SaysGone_spec (f : Nat) (s : Nat) (A : List Nat) (one : Nat) (X : List Nat) (many : Nat) (hpre : TalkOK f s A ∧ one < 256 ∧ (X.length = 6 ∧ ∀ x ∈ X, x < 256) ∧ many < 256) : Ret Tryd.prog 5 [talkP f s A, u8P one, .agg (lof u8P X), u8P many] (boolP true) := by
  refine fn_of (T := [ent_made, ent_members, ent_Goes6s, ent_same, ent_works]) (N := 132) (RO := [4, 6, 9, 63]) (CH := [17, 18, 104, 105]) (KS := [0, 1, 2, 3, 4, 6, 8, 9, 10, 11, 12, 13, 15, 16, 17, 18, 34, 35, 36, 37, 54, 72, 75, 84, 109]) (NS := [12, 64]) (fun args w => Tryd.call5 args w) Tryd.func5 rfl rfl (by simp) mixed (by kernel_rfl) ⟨tab_made_ok, tab_members_ok, tab_Goes6s_ok, tab_same_ok, tab_works_ok, trivial⟩ ?_
  simp only [go_sem, ↓reduceIte, Nat.reduceLT, Nat.reduceLeDiff, Nat.reduceEqDiff, Nat.reduceAdd, Nat.reduceSub, Nat.reduceMul, Nat.reduceBEq, reduceCtorEq, Int.reduceLT, Int.reduceLE, Int.reduceEq, Int.reduceNe, Int.reduceBEq, Int.reduceBNe, Int.reduceAdd, Int.reduceSub, Int.reduceNeg, Int.reduceToNat, beq_self_eq_true, Option.all_some, Option.all_none, Option.some_beq_some, Bool.and_self, List.size_toArray, cond_true, cond_false, beq_true, beq_false, bne_self_eq_false, List.append_eq]
  obtain ⟨ht, ho, ⟨hX, hX2⟩, hm⟩ := hpre
  have hlen := ht.2.2.1
  obtain ⟨n, hn⟩ : ∃ n, 1 + f % 6 = n := ⟨_, rfl⟩
  have h1 : 1 ≤ n := by omega
  have h6 : n ≤ 6 := by omega
  obtain ⟨L, hL⟩ : ∃ L, R6.madeL (2 ^ n - 1) A (s % 9) = L := ⟨_, rfl⟩
  have hok : R6.Ok L n := hL ▸ R6.madeL_ok
  have hl : L.length ≤ 8 := by rw [← hL, R6.madeL_length]; omega
  have h64 := R6.pow64 (show n ≤ 6 by omega)
  have hp := Nat.two_pow_pos n
  have b1 := bits_and64 (show one < 18446744073709551616 by omega) (show 2 ^ n - 1 < 18446744073709551616 by omega)
  have l1 := R6.and_full_lt one n
  have e7 : (many : Int) % 7 = ((many % 7 : Nat) : Int) := emod_nat many 7
  simp only [go_sem, ↓reduceIte, Nat.reduceLT, Nat.reduceLeDiff, Nat.reduceEqDiff, Nat.reduceAdd, Nat.reduceSub, Nat.reduceMul, Nat.reduceBEq, reduceCtorEq, Int.reduceLT, Int.reduceLE, Int.reduceEq, Int.reduceNe, Int.reduceBEq, Int.reduceBNe, Int.reduceAdd, Int.reduceSub, Int.reduceNeg, Int.reduceToNat, beq_self_eq_true, Option.all_some, Option.all_none, Option.some_beq_some, Bool.and_self, List.size_toArray, cond_true, cond_false, beq_true, beq_false, bne_self_eq_false, List.append_eq, u8s_one, u8s_norm, u8s_take hlen, lof_length, hn, hL, shl_one, full_nat, b1, e7, hX]
  have hcl : ∀ x, x = one &&& (2 ^ n - 1) → x < 2 ^ n := fun x hx => hx ▸ l1
  generalize one &&& (2 ^ n - 1) = a at *
  obtain ⟨Y, hY⟩ : ∃ Y, X.take (many % 7) = Y := ⟨_, rfl⟩
  have hYl : Y.length = many % 7 := by rw [← hY, List.length_take]; omega
  have hY2 : ∀ x ∈ Y, x < 256 := fun x hx => hX2 x (List.mem_of_mem_take (hY ▸ hx))
  simp only [go_sem, ↓reduceIte, Nat.reduceLT, Nat.reduceLeDiff, Nat.reduceEqDiff, Nat.reduceAdd, Nat.reduceSub, Nat.reduceMul, Nat.reduceBEq, reduceCtorEq, Int.reduceLT, Int.reduceLE, Int.reduceEq, Int.reduceNe, Int.reduceBEq, Int.reduceBNe, Int.reduceAdd, Int.reduceSub, Int.reduceNeg, Int.reduceToNat, beq_self_eq_true, Option.all_some, Option.all_none, Option.some_beq_some, Bool.and_self, List.size_toArray, cond_true, cond_false, beq_true, beq_false, bne_self_eq_false, List.append_eq, lof_take, hY, lof_length]
  refine ⟨by omega, ht, by rw [InK_u64]; omega, ⟨by omega, by rw [InK_u64]; omega⟩, by rw [InK_u64]; omega, by rw [InK_i64]; omega, ⟨by omega, by omega⟩, ?_⟩
  refine vfor [1,9,10,11,12,13,34,35,36] [12] [.nilS 12 3 1] Y.length (fun j => True) (fun j => ⟨[(1,.p (u8P one)),(9,.p (.ref [natP n, sents (R6.bk L)] 0)),(10,.p (prsP L)),(11,.p (u64P (R6.goM (R6.knL L) a (R6.kG L.length (Y.take j))).1)),(12,.sl 12),(13,.p (errP (R6.goM (R6.knL L) a (R6.kG L.length (Y.take j))).2)),(34,.p (.list .any 1 (lof u8P Y))),(35,.p (natP Y.length)),(36,.p (natP j))], [(12,.vec 3 1 (lof intP (R6.kG L.length (Y.take j))))]⟩) (by first | rfl | (simp only [go_sem, ↓reduceIte, Nat.reduceLT, Nat.reduceLeDiff, Nat.reduceEqDiff, Nat.reduceAdd, Nat.reduceSub, Nat.reduceMul, Nat.reduceBEq, reduceCtorEq, Int.reduceLT, Int.reduceLE, Int.reduceEq, Int.reduceNe, Int.reduceBEq, Int.reduceBNe, Int.reduceAdd, Int.reduceSub, Int.reduceNeg, Int.reduceToNat, beq_self_eq_true, Option.all_some, Option.all_none, Option.some_beq_some, Bool.and_self, List.size_toArray, cond_true, cond_false, beq_true, beq_false, bne_self_eq_false, List.append_eq, List.take_zero]; first | done | rfl)) trivial ?_
  intro j hj _
  by_cases hlt : j < Y.length
  · obtain ⟨x, hx⟩ := get_some hlt
    have hx2 := hY2 x (List.mem_of_getElem? hx)
    have hks : R6.kG L.length (Y.take (j + 1)) = R6.kG L.length (Y.take j) ++ [R6.stepG L.length x] := by rw [R6.take_succ_of hx, R6.kG_snoc]
    have hkl := R6.kG_length L.length (Y.take j)
    have hgs : R6.goM (R6.knL L) a (R6.kG L.length (Y.take (j + 1))) = R6.goStep (R6.knL L) (R6.goM (R6.knL L) a (R6.kG L.length (Y.take j))) (R6.stepG L.length x) := by rw [hks, R6.goM_snoc]
    have hgl := R6.goM_lt' hok l1 (R6.kG L.length (Y.take j))
    have e1 : (x : Int) % ((L.length : Int) + 2) = ((x % (L.length + 2) : Nat) : Int) := by rw [show ((L.length : Int) + 2) = ((L.length + 2 : Nat) : Int) by omega, emod_nat]
    have e2 : (x : Int) % 4 = ((x % 4 : Nat) : Int) := emod_nat x 4
    have e3 : (x : Int) / 4 = ((x / 4 : Nat) : Int) := by simp
    have e4 := emod_nat (x / 4) L.length
    have m1 := Nat.mod_le x (L.length + 2)
    have m2 : x / 4 % L.length ≤ x := Nat.le_trans (Nat.mod_le _ _) (Nat.div_le_self _ _)
    rw [List.length_take] at hkl
    generalize R6.goM (R6.knL L) a (R6.kG L.length (Y.take j)) = g at *
    by_cases c1 : 0 < x % 4
    · have c1' : (0 : Int) < ((x % 4 : Nat) : Int) := by omega
      by_cases c2 : 0 < L.length
      · have hst : R6.stepG L.length x = ((x / 4 % L.length : Nat) : Int) := by simp [R6.stepG, c1, c2]
        have c2' : (0 : Int) < (L.length : Int) := by omega
        simp only [go_sem, ↓reduceIte, Nat.reduceLT, Nat.reduceLeDiff, Nat.reduceEqDiff, Nat.reduceAdd, Nat.reduceSub, Nat.reduceMul, Nat.reduceBEq, reduceCtorEq, Int.reduceLT, Int.reduceLE, Int.reduceEq, Int.reduceNe, Int.reduceBEq, Int.reduceBNe, Int.reduceAdd, Int.reduceSub, Int.reduceNeg, Int.reduceToNat, beq_self_eq_true, Option.all_some, Option.all_none, Option.some_beq_some, Bool.and_self, List.size_toArray, cond_true, cond_false, beq_true, beq_false, bne_self_eq_false, List.append_eq, hlt, lof_getD hx, e1, e2, e3, e4, c1', c2']
        generalize ((x / 4 % L.length : Nat) : Int) = i at *
        rw [hst] at hgs hks
        refine ⟨by rw [InK_i64]; omega, by rw [InK_i64]; omega, by omega, by rw [InK_i64]; omega, by rw [InK_u8]; omega, by rw [InK_i64]; omega, by omega, ?_⟩
        by_cases w0 : g.2 = 0
        · by_cases i0 : i < 0
          · have hg := R6.goStep_none (ks := R6.knL L) w0 (.inl i0)
            rw [hg] at hgs
            simp only [go_sem, ↓reduceIte, Nat.reduceLT, Nat.reduceLeDiff, Nat.reduceEqDiff, Nat.reduceAdd, Nat.reduceSub, Nat.reduceMul, Nat.reduceBEq, reduceCtorEq, Int.reduceLT, Int.reduceLE, Int.reduceEq, Int.reduceNe, Int.reduceBEq, Int.reduceBNe, Int.reduceAdd, Int.reduceSub, Int.reduceNeg, Int.reduceToNat, beq_self_eq_true, Option.all_some, Option.all_none, Option.some_beq_some, Bool.and_self, List.size_toArray, cond_true, cond_false, beq_true, beq_false, bne_self_eq_false, List.append_eq, w0, i0]
            rw [hgs, hks]
            (repeat' (first | assumption | (rw [InK_i64]; omega) | (rw [InK_u8]; omega) | (rw [InK_u64]; omega) | omega | rfl | apply And.intro))
          · by_cases i1 : (L.length : Int) ≤ i
            · have hg := R6.goStep_none (ks := R6.knL L) w0 (.inr (by rw [R6.knL_length]; exact i1))
              rw [hg] at hgs
              simp only [go_sem, ↓reduceIte, Nat.reduceLT, Nat.reduceLeDiff, Nat.reduceEqDiff, Nat.reduceAdd, Nat.reduceSub, Nat.reduceMul, Nat.reduceBEq, reduceCtorEq, Int.reduceLT, Int.reduceLE, Int.reduceEq, Int.reduceNe, Int.reduceBEq, Int.reduceBNe, Int.reduceAdd, Int.reduceSub, Int.reduceNeg, Int.reduceToNat, beq_self_eq_true, Option.all_some, Option.all_none, Option.some_beq_some, Bool.and_self, List.size_toArray, cond_true, cond_false, beq_true, beq_false, bne_self_eq_false, List.append_eq, w0, i0, i1]
              rw [hgs, hks]
              (repeat' (first | assumption | (rw [InK_i64]; omega) | (rw [InK_u8]; omega) | (rw [InK_u64]; omega) | omega | rfl | apply And.intro))
            · obtain ⟨k, rfl⟩ : ∃ k : Nat, i = k := ⟨i.toNat, by omega⟩
              obtain ⟨r, hr⟩ := get_some (show k < L.length by omega)
              have hro := hok r (List.mem_of_getElem? hr)
              have d1 := bits_andNot64 (show r.1 < 18446744073709551616 by omega) (show g.1 < 18446744073709551616 by omega)
              have d2 := bits_or64 (show g.1 < 18446744073709551616 by omega) (show r.2 < 18446744073709551616 by omega)
              by_cases h2 : R6.sub r.1 g.1 = true
              · have hg := R6.goStep_go w0 hr h2
                rw [hg] at hgs
                simp only [go_sem, ↓reduceIte, Nat.reduceLT, Nat.reduceLeDiff, Nat.reduceEqDiff, Nat.reduceAdd, Nat.reduceSub, Nat.reduceMul, Nat.reduceBEq, reduceCtorEq, Int.reduceLT, Int.reduceLE, Int.reduceEq, Int.reduceNe, Int.reduceBEq, Int.reduceBNe, Int.reduceAdd, Int.reduceSub, Int.reduceNeg, Int.reduceToNat, beq_self_eq_true, Option.all_some, Option.all_none, Option.some_beq_some, Bool.and_self, List.size_toArray, cond_true, cond_false, beq_true, beq_false, bne_self_eq_false, List.append_eq, w0, i0, i1, lof_getD hr, d1, d2, R6.dif_nzero, h2]
                rw [hgs, hks]
                (repeat' (first | assumption | (rw [InK_i64]; omega) | (rw [InK_u8]; omega) | (rw [InK_u64]; omega) | omega | rfl | apply And.intro))
              · rw [Bool.not_eq_true] at h2
                have hg := R6.goStep_lost w0 hr h2
                rw [hg] at hgs
                simp only [go_sem, ↓reduceIte, Nat.reduceLT, Nat.reduceLeDiff, Nat.reduceEqDiff, Nat.reduceAdd, Nat.reduceSub, Nat.reduceMul, Nat.reduceBEq, reduceCtorEq, Int.reduceLT, Int.reduceLE, Int.reduceEq, Int.reduceNe, Int.reduceBEq, Int.reduceBNe, Int.reduceAdd, Int.reduceSub, Int.reduceNeg, Int.reduceToNat, beq_self_eq_true, Option.all_some, Option.all_none, Option.some_beq_some, Bool.and_self, List.size_toArray, cond_true, cond_false, beq_true, beq_false, bne_self_eq_false, List.append_eq, w0, i0, i1, lof_getD hr, d1, d2, R6.dif_nzero, h2]
                rw [hgs, hks]
                (repeat' (first | assumption | (rw [InK_i64]; omega) | (rw [InK_u8]; omega) | (rw [InK_u64]; omega) | omega | rfl | apply And.intro))
        · have hg := R6.goStep_err (ks := R6.knL L) w0 i
          rw [hg] at hgs
          simp only [go_sem, ↓reduceIte, Nat.reduceLT, Nat.reduceLeDiff, Nat.reduceEqDiff, Nat.reduceAdd, Nat.reduceSub, Nat.reduceMul, Nat.reduceBEq, reduceCtorEq, Int.reduceLT, Int.reduceLE, Int.reduceEq, Int.reduceNe, Int.reduceBEq, Int.reduceBNe, Int.reduceAdd, Int.reduceSub, Int.reduceNeg, Int.reduceToNat, beq_self_eq_true, Option.all_some, Option.all_none, Option.some_beq_some, Bool.and_self, List.size_toArray, cond_true, cond_false, beq_true, beq_false, bne_self_eq_false, List.append_eq, show (g.2 != 0) = true by simp [w0]]
          rw [hgs, hks]
          (repeat' (first | assumption | (rw [InK_i64]; omega) | (rw [InK_u8]; omega) | (rw [InK_u64]; omega) | omega | rfl | apply And.intro))
      · have hst : R6.stepG L.length x = ((x % (L.length + 2) : Nat) : Int) - 1 := by simp [R6.stepG, c2]
        have c2' : ¬ (0 : Int) < (L.length : Int) := by omega
        simp only [go_sem, ↓reduceIte, Nat.reduceLT, Nat.reduceLeDiff, Nat.reduceEqDiff, Nat.reduceAdd, Nat.reduceSub, Nat.reduceMul, Nat.reduceBEq, reduceCtorEq, Int.reduceLT, Int.reduceLE, Int.reduceEq, Int.reduceNe, Int.reduceBEq, Int.reduceBNe, Int.reduceAdd, Int.reduceSub, Int.reduceNeg, Int.reduceToNat, beq_self_eq_true, Option.all_some, Option.all_none, Option.some_beq_some, Bool.and_self, List.size_toArray, cond_true, cond_false, beq_true, beq_false, bne_self_eq_false, List.append_eq, hlt, lof_getD hx, e1, e2, e3, e4, c1', c2']
        have hir : ((x % (L.length + 2) : Nat) : Int) - 1 = ((x % (L.length + 2) : Nat) : Int) - 1 := rfl
        have hlo : -1 ≤ ((x % (L.length + 2) : Nat) : Int) - 1 := by omega
        have hhi : ((x % (L.length + 2) : Nat) : Int) - 1 ≤ 300 := by have := Nat.mod_le x (L.length + 2); omega
        generalize ((x % (L.length + 2) : Nat) : Int) - 1 = i at *
        rw [hst] at hgs hks
        refine ⟨by rw [InK_i64]; omega, by rw [InK_i64]; omega, by omega, by rw [InK_i64]; omega, by omega, ?_⟩
        by_cases w0 : g.2 = 0
        · by_cases i0 : i < 0
          · have hg := R6.goStep_none (ks := R6.knL L) w0 (.inl i0)
            rw [hg] at hgs
            simp only [go_sem, ↓reduceIte, Nat.reduceLT, Nat.reduceLeDiff, Nat.reduceEqDiff, Nat.reduceAdd, Nat.reduceSub, Nat.reduceMul, Nat.reduceBEq, reduceCtorEq, Int.reduceLT, Int.reduceLE, Int.reduceEq, Int.reduceNe, Int.reduceBEq, Int.reduceBNe, Int.reduceAdd, Int.reduceSub, Int.reduceNeg, Int.reduceToNat, beq_self_eq_true, Option.all_some, Option.all_none, Option.some_beq_some, Bool.and_self, List.size_toArray, cond_true, cond_false, beq_true, beq_false, bne_self_eq_false, List.append_eq, w0, i0]
            rw [hgs, hks]
            (repeat' (first | assumption | (rw [InK_i64]; omega) | (rw [InK_u8]; omega) | (rw [InK_u64]; omega) | omega | rfl | apply And.intro))
          · by_cases i1 : (L.length : Int) ≤ i
            · have hg := R6.goStep_none (ks := R6.knL L) w0 (.inr (by rw [R6.knL_length]; exact i1))
              rw [hg] at hgs
              simp only [go_sem, ↓reduceIte, Nat.reduceLT, Nat.reduceLeDiff, Nat.reduceEqDiff, Nat.reduceAdd, Nat.reduceSub, Nat.reduceMul, Nat.reduceBEq, reduceCtorEq, Int.reduceLT, Int.reduceLE, Int.reduceEq, Int.reduceNe, Int.reduceBEq, Int.reduceBNe, Int.reduceAdd, Int.reduceSub, Int.reduceNeg, Int.reduceToNat, beq_self_eq_true, Option.all_some, Option.all_none, Option.some_beq_some, Bool.and_self, List.size_toArray, cond_true, cond_false, beq_true, beq_false, bne_self_eq_false, List.append_eq, w0, i0, i1]
              rw [hgs, hks]
              (repeat' (first | assumption | (rw [InK_i64]; omega) | (rw [InK_u8]; omega) | (rw [InK_u64]; omega) | omega | rfl | apply And.intro))
            · obtain ⟨k, rfl⟩ : ∃ k : Nat, i = k := ⟨i.toNat, by omega⟩
              obtain ⟨r, hr⟩ := get_some (show k < L.length by omega)
              have hro := hok r (List.mem_of_getElem? hr)
              have d1 := bits_andNot64 (show r.1 < 18446744073709551616 by omega) (show g.1 < 18446744073709551616 by omega)
              have d2 := bits_or64 (show g.1 < 18446744073709551616 by omega) (show r.2 < 18446744073709551616 by omega)
              by_cases h2 : R6.sub r.1 g.1 = true
              · have hg := R6.goStep_go w0 hr h2
                rw [hg] at hgs
                simp only [go_sem, ↓reduceIte, Nat.reduceLT, Nat.reduceLeDiff, Nat.reduceEqDiff, Nat.reduceAdd, Nat.reduceSub, Nat.reduceMul, Nat.reduceBEq, reduceCtorEq, Int.reduceLT, Int.reduceLE, Int.reduceEq, Int.reduceNe, Int.reduceBEq, Int.reduceBNe, Int.reduceAdd, Int.reduceSub, Int.reduceNeg, Int.reduceToNat, beq_self_eq_true, Option.all_some, Option.all_none, Option.some_beq_some, Bool.and_self, List.size_toArray, cond_true, cond_false, beq_true, beq_false, bne_self_eq_false, List.append_eq, w0, i0, i1, lof_getD hr, d1, d2, R6.dif_nzero, h2]
                rw [hgs, hks]
                (repeat' (first | assumption | (rw [InK_i64]; omega) | (rw [InK_u8]; omega) | (rw [InK_u64]; omega) | omega | rfl | apply And.intro))
              · rw [Bool.not_eq_true] at h2
                have hg := R6.goStep_lost w0 hr h2
                rw [hg] at hgs
                simp only [go_sem, ↓reduceIte, Nat.reduceLT, Nat.reduceLeDiff, Nat.reduceEqDiff, Nat.reduceAdd, Nat.reduceSub, Nat.reduceMul, Nat.reduceBEq, reduceCtorEq, Int.reduceLT, Int.reduceLE, Int.reduceEq, Int.reduceNe, Int.reduceBEq, Int.reduceBNe, Int.reduceAdd, Int.reduceSub, Int.reduceNeg, Int.reduceToNat, beq_self_eq_true, Option.all_some, Option.all_none, Option.some_beq_some, Bool.and_self, List.size_toArray, cond_true, cond_false, beq_true, beq_false, bne_self_eq_false, List.append_eq, w0, i0, i1, lof_getD hr, d1, d2, R6.dif_nzero, h2]
                rw [hgs, hks]
                (repeat' (first | assumption | (rw [InK_i64]; omega) | (rw [InK_u8]; omega) | (rw [InK_u64]; omega) | omega | rfl | apply And.intro))
        · have hg := R6.goStep_err (ks := R6.knL L) w0 i
          rw [hg] at hgs
          simp only [go_sem, ↓reduceIte, Nat.reduceLT, Nat.reduceLeDiff, Nat.reduceEqDiff, Nat.reduceAdd, Nat.reduceSub, Nat.reduceMul, Nat.reduceBEq, reduceCtorEq, Int.reduceLT, Int.reduceLE, Int.reduceEq, Int.reduceNe, Int.reduceBEq, Int.reduceBNe, Int.reduceAdd, Int.reduceSub, Int.reduceNeg, Int.reduceToNat, beq_self_eq_true, Option.all_some, Option.all_none, Option.some_beq_some, Bool.and_self, List.size_toArray, cond_true, cond_false, beq_true, beq_false, bne_self_eq_false, List.append_eq, show (g.2 != 0) = true by simp [w0]]
          rw [hgs, hks]
          (repeat' (first | assumption | (rw [InK_i64]; omega) | (rw [InK_u8]; omega) | (rw [InK_u64]; omega) | omega | rfl | apply And.intro))
    · have hst : R6.stepG L.length x = ((x % (L.length + 2) : Nat) : Int) - 1 := by simp [R6.stepG, c1]
      have c1' : ¬ (0 : Int) < ((x % 4 : Nat) : Int) := by omega
      simp only [go_sem, ↓reduceIte, Nat.reduceLT, Nat.reduceLeDiff, Nat.reduceEqDiff, Nat.reduceAdd, Nat.reduceSub, Nat.reduceMul, Nat.reduceBEq, reduceCtorEq, Int.reduceLT, Int.reduceLE, Int.reduceEq, Int.reduceNe, Int.reduceBEq, Int.reduceBNe, Int.reduceAdd, Int.reduceSub, Int.reduceNeg, Int.reduceToNat, beq_self_eq_true, Option.all_some, Option.all_none, Option.some_beq_some, Bool.and_self, List.size_toArray, cond_true, cond_false, beq_true, beq_false, bne_self_eq_false, List.append_eq, hlt, lof_getD hx, e1, e2, e3, e4, c1']
      have hlo : -1 ≤ ((x % (L.length + 2) : Nat) : Int) - 1 := by omega
      have hhi : ((x % (L.length + 2) : Nat) : Int) - 1 ≤ 300 := by have := Nat.mod_le x (L.length + 2); omega
      generalize ((x % (L.length + 2) : Nat) : Int) - 1 = i at *
      rw [hst] at hgs hks
      refine ⟨by rw [InK_i64]; omega, by rw [InK_i64]; omega, by omega, by rw [InK_i64]; omega, by omega, ?_⟩
      by_cases w0 : g.2 = 0
      · by_cases i0 : i < 0
        · have hg := R6.goStep_none (ks := R6.knL L) w0 (.inl i0)
          rw [hg] at hgs
          simp only [go_sem, ↓reduceIte, Nat.reduceLT, Nat.reduceLeDiff, Nat.reduceEqDiff, Nat.reduceAdd, Nat.reduceSub, Nat.reduceMul, Nat.reduceBEq, reduceCtorEq, Int.reduceLT, Int.reduceLE, Int.reduceEq, Int.reduceNe, Int.reduceBEq, Int.reduceBNe, Int.reduceAdd, Int.reduceSub, Int.reduceNeg, Int.reduceToNat, beq_self_eq_true, Option.all_some, Option.all_none, Option.some_beq_some, Bool.and_self, List.size_toArray, cond_true, cond_false, beq_true, beq_false, bne_self_eq_false, List.append_eq, w0, i0]
          rw [hgs, hks]
          (repeat' (first | assumption | (rw [InK_i64]; omega) | (rw [InK_u8]; omega) | (rw [InK_u64]; omega) | omega | rfl | apply And.intro))
        · by_cases i1 : (L.length : Int) ≤ i
          · have hg := R6.goStep_none (ks := R6.knL L) w0 (.inr (by rw [R6.knL_length]; exact i1))
            rw [hg] at hgs
            simp only [go_sem, ↓reduceIte, Nat.reduceLT, Nat.reduceLeDiff, Nat.reduceEqDiff, Nat.reduceAdd, Nat.reduceSub, Nat.reduceMul, Nat.reduceBEq, reduceCtorEq, Int.reduceLT, Int.reduceLE, Int.reduceEq, Int.reduceNe, Int.reduceBEq, Int.reduceBNe, Int.reduceAdd, Int.reduceSub, Int.reduceNeg, Int.reduceToNat, beq_self_eq_true, Option.all_some, Option.all_none, Option.some_beq_some, Bool.and_self, List.size_toArray, cond_true, cond_false, beq_true, beq_false, bne_self_eq_false, List.append_eq, w0, i0, i1]
            rw [hgs, hks]
            (repeat' (first | assumption | (rw [InK_i64]; omega) | (rw [InK_u8]; omega) | (rw [InK_u64]; omega) | omega | rfl | apply And.intro))
          · obtain ⟨k, rfl⟩ : ∃ k : Nat, i = k := ⟨i.toNat, by omega⟩
            obtain ⟨r, hr⟩ := get_some (show k < L.length by omega)
            have hro := hok r (List.mem_of_getElem? hr)
            have d1 := bits_andNot64 (show r.1 < 18446744073709551616 by omega) (show g.1 < 18446744073709551616 by omega)
            have d2 := bits_or64 (show g.1 < 18446744073709551616 by omega) (show r.2 < 18446744073709551616 by omega)
            by_cases h2 : R6.sub r.1 g.1 = true
            · have hg := R6.goStep_go w0 hr h2
              rw [hg] at hgs
              simp only [go_sem, ↓reduceIte, Nat.reduceLT, Nat.reduceLeDiff, Nat.reduceEqDiff, Nat.reduceAdd, Nat.reduceSub, Nat.reduceMul, Nat.reduceBEq, reduceCtorEq, Int.reduceLT, Int.reduceLE, Int.reduceEq, Int.reduceNe, Int.reduceBEq, Int.reduceBNe, Int.reduceAdd, Int.reduceSub, Int.reduceNeg, Int.reduceToNat, beq_self_eq_true, Option.all_some, Option.all_none, Option.some_beq_some, Bool.and_self, List.size_toArray, cond_true, cond_false, beq_true, beq_false, bne_self_eq_false, List.append_eq, w0, i0, i1, lof_getD hr, d1, d2, R6.dif_nzero, h2]
              rw [hgs, hks]
              (repeat' (first | assumption | (rw [InK_i64]; omega) | (rw [InK_u8]; omega) | (rw [InK_u64]; omega) | omega | rfl | apply And.intro))
            · rw [Bool.not_eq_true] at h2
              have hg := R6.goStep_lost w0 hr h2
              rw [hg] at hgs
              simp only [go_sem, ↓reduceIte, Nat.reduceLT, Nat.reduceLeDiff, Nat.reduceEqDiff, Nat.reduceAdd, Nat.reduceSub, Nat.reduceMul, Nat.reduceBEq, reduceCtorEq, Int.reduceLT, Int.reduceLE, Int.reduceEq, Int.reduceNe, Int.reduceBEq, Int.reduceBNe, Int.reduceAdd, Int.reduceSub, Int.reduceNeg, Int.reduceToNat, beq_self_eq_true, Option.all_some, Option.all_none, Option.some_beq_some, Bool.and_self, List.size_toArray, cond_true, cond_false, beq_true, beq_false, bne_self_eq_false, List.append_eq, w0, i0, i1, lof_getD hr, d1, d2, R6.dif_nzero, h2]
              rw [hgs, hks]
              (repeat' (first | assumption | (rw [InK_i64]; omega) | (rw [InK_u8]; omega) | (rw [InK_u64]; omega) | omega | rfl | apply And.intro))
      · have hg := R6.goStep_err (ks := R6.knL L) w0 i
        rw [hg] at hgs
        simp only [go_sem, ↓reduceIte, Nat.reduceLT, Nat.reduceLeDiff, Nat.reduceEqDiff, Nat.reduceAdd, Nat.reduceSub, Nat.reduceMul, Nat.reduceBEq, reduceCtorEq, Int.reduceLT, Int.reduceLE, Int.reduceEq, Int.reduceNe, Int.reduceBEq, Int.reduceBNe, Int.reduceAdd, Int.reduceSub, Int.reduceNeg, Int.reduceToNat, beq_self_eq_true, Option.all_some, Option.all_none, Option.some_beq_some, Bool.and_self, List.size_toArray, cond_true, cond_false, beq_true, beq_false, bne_self_eq_false, List.append_eq, show (g.2 != 0) = true by simp [w0]]
        rw [hgs, hks]
        (repeat' (first | assumption | (rw [InK_i64]; omega) | (rw [InK_u8]; omega) | (rw [InK_u64]; omega) | omega | rfl | apply And.intro))
  · rw [take_all hj hlt]
    have T := R6.goTop_bk h1 h6 hl hok l1 (R6.kG L.length Y)
    have hkl := R6.kG_length L.length Y
    have hgl := R6.goM_lt' hok l1 (R6.kG L.length Y)
    have k1 := bk_ok L
    have z2 := lst_sz a
    generalize R6.kG L.length Y = K at *
    generalize R6.goM (R6.knL L) a K = g at *
    have z3 := lst_sz g.1
    by_cases w0 : g.2 = 0
    · rw [if_neg (by simp [w0])] at T
      simp only [go_sem, ↓reduceIte, Nat.reduceLT, Nat.reduceLeDiff, Nat.reduceEqDiff, Nat.reduceAdd, Nat.reduceSub, Nat.reduceMul, Nat.reduceBEq, reduceCtorEq, Int.reduceLT, Int.reduceLE, Int.reduceEq, Int.reduceNe, Int.reduceBEq, Int.reduceBNe, Int.reduceAdd, Int.reduceSub, Int.reduceNeg, Int.reduceToNat, beq_self_eq_true, Option.all_some, Option.all_none, Option.some_beq_some, Bool.and_self, List.size_toArray, cond_true, cond_false, beq_true, beq_false, bne_self_eq_false, List.append_eq, hlt, shl_one, full_nat, b1, T, w0]
      trace_state
      (repeat' (first | assumption | exact lst_sz _ | exact bk_ok _ | exact ex_le_refl rfl | (rw [InK_i64]; omega) | (rw [InK_u8]; omega) | (rw [InK_u64]; omega) | omega | (unfold sz; omega) | (rw [R6.bk_length]; unfold sz; omega) | (rw [R6.bk_length]; omega) | apply And.intro))
    · rw [if_pos w0] at T
      simp only [go_sem, ↓reduceIte, Nat.reduceLT, Nat.reduceLeDiff, Nat.reduceEqDiff, Nat.reduceAdd, Nat.reduceSub, Nat.reduceMul, Nat.reduceBEq, reduceCtorEq, Int.reduceLT, Int.reduceLE, Int.reduceEq, Int.reduceNe, Int.reduceBEq, Int.reduceBNe, Int.reduceAdd, Int.reduceSub, Int.reduceNeg, Int.reduceToNat, beq_self_eq_true, Option.all_some, Option.all_none, Option.some_beq_some, Bool.and_self, List.size_toArray, cond_true, cond_false, beq_true, beq_false, bne_self_eq_false, List.append_eq, hlt, shl_one, full_nat, b1, T, show (g.2 != 0) = true by simp [w0]]
      trace_state
      (repeat' (first | assumption | exact lst_sz _ | exact bk_ok _ | exact ex_le_refl rfl | (rw [InK_i64]; omega) | (rw [InK_u8]; omega) | (rw [InK_u64]; omega) | omega | (unfold sz; omega) | (rw [R6.bk_length]; unfold sz; omega) | (rw [R6.bk_length]; omega) | apply And.intro))
noncomputable def tab_SaysGone : Tab := tabOf (fun p : (Nat) × (Nat) × (List Nat) × (Nat) × (List Nat) × (Nat) => match p with | (f, s, A, one, X, many) => [talkP f s A, u8P one, .agg (lof u8P X), u8P many]) (fun p : (Nat) × (Nat) × (List Nat) × (Nat) × (List Nat) × (Nat) => match p with | (f, s, A, one, X, many) => TalkOK f s A ∧ one < 256 ∧ (X.length = 6 ∧ ∀ x ∈ X, x < 256) ∧ many < 256) (fun p : (Nat) × (Nat) × (List Nat) × (Nat) × (List Nat) × (Nat) => match p with | (f, s, A, one, X, many) => boolP true)
theorem tab_SaysGone_eq (f : Nat) (s : Nat) (A : List Nat) (one : Nat) (X : List Nat) (many : Nat) : tab_SaysGone [talkP f s A, u8P one, .agg (lof u8P X), u8P many] = some (TalkOK f s A ∧ one < 256 ∧ (X.length = 6 ∧ ∀ x ∈ X, x < 256) ∧ many < 256, .p (boolP true)) := tabOf_eq (enc := fun p : (Nat) × (Nat) × (List Nat) × (Nat) × (List Nat) × (Nat) => match p with | (f, s, A, one, X, many) => [talkP f s A, u8P one, .agg (lof u8P X), u8P many]) (pre := fun p : (Nat) × (Nat) × (List Nat) × (Nat) × (List Nat) × (Nat) => match p with | (f, s, A, one, X, many) => TalkOK f s A ∧ one < 256 ∧ (X.length = 6 ∧ ∀ x ∈ X, x < 256) ∧ many < 256) (out := fun p : (Nat) × (Nat) × (List Nat) × (Nat) × (List Nat) × (Nat) => match p with | (f, s, A, one, X, many) => boolP true) (by rintro ⟨f, s, A, one, X, many⟩ ⟨f', s', A', one', X', many'⟩ h; simp at h; first | (simp [h]; done) | omega | (simp [h]; omega)) (f, s, A, one, X, many)
theorem tab_SaysGone_ok : TabOK Tryd.prog 5 tab_SaysGone := tabOf_ok (by rintro ⟨f, s, A, one, X, many⟩ h; exact SaysGone_spec f s A one X many h)
noncomputable abbrev ent_SaysGone : FuncId × List Nat × Tab := (5, [], tab_SaysGone)
attribute [go_sem] tab_SaysGone_eq
end Go.V
