/-
  Contract of the law SaysSpared. Conditions: none.
-/
import Derived.Test.YthhfgcejamfinaaDoorC06y
import Derived.Test.YthhfgcejamfinaaDoorP6C
set_option linter.unusedVariables false
set_option linter.unusedSimpArgs false
set_option linter.deprecated false
namespace Go.V
open Go.Proofs
set_option maxRecDepth 100000
set_option maxHeartbeats 4000000

theorem SaysSpared_spec (f : Nat) (s : Nat) (A : List Nat) (one : Nat) (hpre : TalkOK f s A ∧ one < 256) : Ret Tryd.prog 8 [talkP f s A, u8P one] (boolP true) := by
  refine fn_of (T := [ent_made, ent_members, ent_Follows6s, ent_clonePr, ent_delPr, ent_closedL, ent_cloneS, ent_delS, ent_readLL, ent_followsL, ent_same, ent_Same6s, ent_Needless6s, ent_works]) (N := 149) (RO := [2, 5, 114]) (CH := [9, 10, 15, 16, 17, 75, 79, 80, 1000015, 2000015]) (KS := [0, 1, 2, 4, 5, 6, 7, 8, 9, 10, 11, 12, 13, 14, 15, 16, 17, 18, 19, 20, 21, 42, 44, 45, 46, 56, 57, 58, 110, 111, 119, 132]) (NS := [8, 12, 49, 53, 75, 79, 115]) (fun args w => Tryd.call8 args w) Tryd.func8 rfl rfl (by simp) mixed (by kernel_rfl) ⟨tab_made_ok, tab_members_ok, tab_Follows6s_ok, tab_clonePr_ok, tab_delPr_ok, tab_closedL_ok, tab_cloneS_ok, tab_delS_ok, tab_readLL_ok, tab_followsL_ok, tab_same_ok, tab_Same6s_ok, tab_Needless6s_ok, tab_works_ok, trivial⟩ ?_
  simp only [go_sem, ↓reduceIte, Nat.reduceLT, Nat.reduceLeDiff, Nat.reduceEqDiff, Nat.reduceAdd, Nat.reduceSub, Nat.reduceMul, Nat.reduceBEq, reduceCtorEq, Int.reduceLT, Int.reduceLE, Int.reduceEq, Int.reduceNe, Int.reduceBEq, Int.reduceBNe, Int.reduceAdd, Int.reduceSub, Int.reduceNeg, Int.reduceToNat, beq_self_eq_true, Option.all_some, Option.all_none, Option.some_beq_some, Bool.and_self, List.size_toArray, cond_true, cond_false, beq_true, beq_false, bne_self_eq_false, List.append_eq]
  obtain ⟨ht, ho⟩ := hpre
  have hlen := ht.2.2.1
  obtain ⟨n, hn⟩ : ∃ n, 1 + f % 5 = n := ⟨_, rfl⟩
  have h1 : 1 ≤ n := by omega
  have h6 : n ≤ 6 := by omega
  obtain ⟨L, hL⟩ : ∃ L, R6.madeL (2 ^ n - 1) A (s % 9) = L := ⟨_, rfl⟩
  have hok : R6.Ok L n := hL ▸ R6.madeL_ok
  have hl : L.length ≤ 8 := by rw [← hL, R6.madeL_length]; omega
  have h64 := R6.pow64 (show n ≤ 6 by omega)
  have hp := Nat.two_pow_pos n
  have hrs : RsOK L := ⟨by omega, fun r hr => by have := hok r hr; omega⟩
  have k1 := bk_ok L
  have b1 := bits_and64 (show one < 18446744073709551616 by omega) (show 2 ^ n - 1 < 18446744073709551616 by omega)
  have l1 := R6.and_full_lt one n
  simp only [go_sem, ↓reduceIte, Nat.reduceLT, Nat.reduceLeDiff, Nat.reduceEqDiff, Nat.reduceAdd, Nat.reduceSub, Nat.reduceMul, Nat.reduceBEq, reduceCtorEq, Int.reduceLT, Int.reduceLE, Int.reduceEq, Int.reduceNe, Int.reduceBEq, Int.reduceBNe, Int.reduceAdd, Int.reduceSub, Int.reduceNeg, Int.reduceToNat, beq_self_eq_true, Option.all_some, Option.all_none, Option.some_beq_some, Bool.and_self, List.size_toArray, cond_true, cond_false, beq_true, beq_false, bne_self_eq_false, List.append_eq, u8s_one, u8s_norm, u8s_take hlen, lof_length, hn, hL, shl_one, full_nat, b1]
  generalize one &&& (2 ^ n - 1) = a0 at *
  have z1 := lst_sz a0
  have c1 := R6.clo_lt L n a0
  have A1 := R6.asked_bk h1 h6 hl hok l1
  have M1 := R6.askedM_bk h1 h6 hl hok l1
  have F1 := R6.fol_bk h1 h6 hl hok l1
  simp only [go_sem, ↓reduceIte, Nat.reduceLT, Nat.reduceLeDiff, Nat.reduceEqDiff, Nat.reduceAdd, Nat.reduceSub, Nat.reduceMul, Nat.reduceBEq, reduceCtorEq, Int.reduceLT, Int.reduceLE, Int.reduceEq, Int.reduceNe, Int.reduceBEq, Int.reduceBNe, Int.reduceAdd, Int.reduceSub, Int.reduceNeg, Int.reduceToNat, beq_self_eq_true, Option.all_some, Option.all_none, Option.some_beq_some, Bool.and_self, List.size_toArray, cond_true, cond_false, beq_true, beq_false, bne_self_eq_false, List.append_eq, A1, M1, F1]
  refine ⟨by omega, ht, by rw [InK_u64]; omega, ⟨by omega, by rw [InK_u64]; omega⟩, by rw [InK_u64]; omega, by omega, ⟨k1, z1⟩, ?_⟩
  refine vfor [5,6,7,8,9,44,45] [8] [.nilS 8 3 1] L.length (fun k => True) (fun k => ⟨[(5,.p (.ref [natP n, sents (R6.bk L)] 0)),(6,.p (prsP L)),(7,.p (u64P a0)),(8,.sl 8),(9,.p (ints (R6.lst (R6.clo L n a0)))),(44,.p (natP L.length)),(45,.p (natP k))], [(8,.vec 3 1 (lof intP (R6.spareU L n k)))]⟩) (by first | rfl | (simp only [go_sem, ↓reduceIte, Nat.reduceLT, Nat.reduceLeDiff, Nat.reduceEqDiff, Nat.reduceAdd, Nat.reduceSub, Nat.reduceMul, Nat.reduceBEq, reduceCtorEq, Int.reduceLT, Int.reduceLE, Int.reduceEq, Int.reduceNe, Int.reduceBEq, Int.reduceBNe, Int.reduceAdd, Int.reduceSub, Int.reduceNeg, Int.reduceToNat, beq_self_eq_true, Option.all_some, Option.all_none, Option.some_beq_some, Bool.and_self, List.size_toArray, cond_true, cond_false, beq_true, beq_false, bne_self_eq_false, List.append_eq, R6.spareU_zero]; first | done | rfl)) trivial ?_
  intro k hk _
  have hsl := R6.spareU_length L n k
  by_cases hlt : k < L.length
  · simp only [go_sem, ↓reduceIte, Nat.reduceLT, Nat.reduceLeDiff, Nat.reduceEqDiff, Nat.reduceAdd, Nat.reduceSub, Nat.reduceMul, Nat.reduceBEq, reduceCtorEq, Int.reduceLT, Int.reduceLE, Int.reduceEq, Int.reduceNe, Int.reduceBEq, Int.reduceBNe, Int.reduceAdd, Int.reduceSub, Int.reduceNeg, Int.reduceToNat, beq_self_eq_true, Option.all_some, Option.all_none, Option.some_beq_some, Bool.and_self, List.size_toArray, cond_true, cond_false, beq_true, beq_false, bne_self_eq_false, List.append_eq, hlt, shl_one]
    refine ⟨by unfold sz; omega, by rw [InK_i64]; omega, ⟨by omega, by rw [InK_u64]; omega⟩, ?_⟩
    have hoe := R6.erase_ok hok k
    have hle := R6.erase_len hl k
    have hrse : RsOK (L.eraseIdx k) := ⟨by omega, fun r hr => by have := hoe r hr; omega⟩
    refine vfor [5,6,7,8,9,11,12,13,44,45,56,57] [8] [.seal 12] (2 ^ n) (fun x => True) (fun x => ⟨[(5,.p (.ref [natP n, sents (R6.bk L)] 0)),(6,.p (prsP L)),(7,.p (u64P a0)),(8,.sl 8),(9,.p (ints (R6.lst (R6.clo L n a0)))),(11,.p (natP k)),(12,.p (prsP (L.eraseIdx k))),(13,.p (boolP (R6.isU L k x))),(44,.p (natP L.length)),(45,.p (natP k)),(56,.p (u64P (2 ^ n))),(57,.p (u64P x))], [(8,.vec 3 1 (lof intP (R6.spareU L n k)))]⟩) (by first | rfl | (simp only [go_sem, ↓reduceIte, Nat.reduceLT, Nat.reduceLeDiff, Nat.reduceEqDiff, Nat.reduceAdd, Nat.reduceSub, Nat.reduceMul, Nat.reduceBEq, reduceCtorEq, Int.reduceLT, Int.reduceLE, Int.reduceEq, Int.reduceNe, Int.reduceBEq, Int.reduceBNe, Int.reduceAdd, Int.reduceSub, Int.reduceNeg, Int.reduceToNat, beq_self_eq_true, Option.all_some, Option.all_none, Option.some_beq_some, Bool.and_self, List.size_toArray, cond_true, cond_false, beq_true, beq_false, bne_self_eq_false, List.append_eq, R6.isU_zero]; first | done | rfl)) trivial ?_
    intro x hx _
    have hiu := R6.isU_succ L k x
    by_cases hxl : x < 2 ^ n
    · by_cases h2 : R6.isU L k x = true
      · rw [h2, Bool.true_and] at hiu
        simp only [go_sem, ↓reduceIte, Nat.reduceLT, Nat.reduceLeDiff, Nat.reduceEqDiff, Nat.reduceAdd, Nat.reduceSub, Nat.reduceMul, Nat.reduceBEq, reduceCtorEq, Int.reduceLT, Int.reduceLE, Int.reduceEq, Int.reduceNe, Int.reduceBEq, Int.reduceBNe, Int.reduceAdd, Int.reduceSub, Int.reduceNeg, Int.reduceToNat, beq_self_eq_true, Option.all_some, Option.all_none, Option.some_beq_some, Bool.and_self, List.size_toArray, cond_true, cond_false, beq_true, beq_false, bne_self_eq_false, List.append_eq, hxl, h2]
        rw [hiu]
        (repeat' (first | assumption | exact lst_sz _ | exact bk_ok _ | exact ex_le_refl rfl | (rw [InK_i64]; omega) | (rw [InK_u8]; omega) | (rw [InK_u64]; omega) | omega | (unfold sz; omega) | (rw [R6.bk_length]; unfold sz; omega) | (rw [R6.bk_length]; omega) | rfl | apply And.intro))
      · rw [Bool.not_eq_true] at h2
        rw [h2, Bool.false_and] at hiu
        simp only [go_sem, ↓reduceIte, Nat.reduceLT, Nat.reduceLeDiff, Nat.reduceEqDiff, Nat.reduceAdd, Nat.reduceSub, Nat.reduceMul, Nat.reduceBEq, reduceCtorEq, Int.reduceLT, Int.reduceLE, Int.reduceEq, Int.reduceNe, Int.reduceBEq, Int.reduceBNe, Int.reduceAdd, Int.reduceSub, Int.reduceNeg, Int.reduceToNat, beq_self_eq_true, Option.all_some, Option.all_none, Option.some_beq_some, Bool.and_self, List.size_toArray, cond_true, cond_false, beq_true, beq_false, bne_self_eq_false, List.append_eq, hxl, h2]
        rw [hiu]
        (repeat' (first | assumption | exact lst_sz _ | exact bk_ok _ | exact ex_le_refl rfl | (rw [InK_i64]; omega) | (rw [InK_u8]; omega) | (rw [InK_u64]; omega) | omega | (unfold sz; omega) | (rw [R6.bk_length]; unfold sz; omega) | (rw [R6.bk_length]; omega) | rfl | apply And.intro))
    · obtain rfl : x = 2 ^ n := by omega
      have A2 := R6.asked_bk h1 h6 hle hoe l1
      have M2 := R6.askedM_bk h1 h6 hle hoe l1
      have F2 := R6.fol_bk h1 h6 hle hoe l1
      have c2 := R6.clo_lt (L.eraseIdx k) n a0
      have R2 := R6.readL_lst h6 c2
      have z2 := lst_sz (R6.clo (L.eraseIdx k) n a0)
      have b2 := bits_andNot64 (show R6.clo (L.eraseIdx k) n a0 < 18446744073709551616 by omega) (show R6.clo L n a0 < 18446744073709551616 by omega)
      have hsb := R6.clo_erase hok l1 k
      have k2 := bk_ok (L.eraseIdx k)
      have hse := R6.sameErr_erase h1 h6 hl hok k
      have hsm := R6.same_erase h1 h6 hl hok k
      have hss := R6.spareU_succ L n k
      have hbe := R6.bk_erase L k
      have hbl := R6.bk_length L
      have hi2 : R6.isU L k (2 ^ n) = R6.isS L n k := rfl
      by_cases h3 : R6.isS L n k = true
      · have hcs := R6.clo_same hok l1 h3
        rw [if_pos h3] at hss
        rw [h3] at hsm hi2
        have R1 := R6.readL_lst h6 c1
        have z3 := lst_sz (R6.clo L n a0)
        have b3 := bits_andNot64 (show R6.clo L n a0 < 18446744073709551616 by omega) (show R6.clo L n a0 < 18446744073709551616 by omega)
        simp only [go_sem, ↓reduceIte, Nat.reduceLT, Nat.reduceLeDiff, Nat.reduceEqDiff, Nat.reduceAdd, Nat.reduceSub, Nat.reduceMul, Nat.reduceBEq, reduceCtorEq, Int.reduceLT, Int.reduceLE, Int.reduceEq, Int.reduceNe, Int.reduceBEq, Int.reduceBNe, Int.reduceAdd, Int.reduceSub, Int.reduceNeg, Int.reduceToNat, beq_self_eq_true, Option.all_some, Option.all_none, Option.some_beq_some, Bool.and_self, List.size_toArray, cond_true, cond_false, beq_true, beq_false, bne_self_eq_false, List.append_eq, hxl, hbe, hbl, A2, M2, F2, R1, b3, R6.dif_nzero, R6.sub_refl, hi2, hcs, hse, hsm]
        rw [hss]
        (repeat' (first | assumption | exact lst_sz _ | exact bk_ok _ | exact ex_le_refl rfl | (rw [InK_i64]; omega) | (rw [InK_u8]; omega) | (rw [InK_u64]; omega) | omega | (unfold sz; omega) | (rw [R6.bk_length]; unfold sz; omega) | (rw [R6.bk_length]; omega) | rfl | apply And.intro))
      · rw [if_neg h3, List.append_nil] at hss
        rw [Bool.not_eq_true] at h3
        rw [h3] at hsm hi2
        simp only [go_sem, ↓reduceIte, Nat.reduceLT, Nat.reduceLeDiff, Nat.reduceEqDiff, Nat.reduceAdd, Nat.reduceSub, Nat.reduceMul, Nat.reduceBEq, reduceCtorEq, Int.reduceLT, Int.reduceLE, Int.reduceEq, Int.reduceNe, Int.reduceBEq, Int.reduceBNe, Int.reduceAdd, Int.reduceSub, Int.reduceNeg, Int.reduceToNat, beq_self_eq_true, Option.all_some, Option.all_none, Option.some_beq_some, Bool.and_self, List.size_toArray, cond_true, cond_false, beq_true, beq_false, bne_self_eq_false, List.append_eq, hxl, hbe, hbl, A2, M2, F2, R2, b2, R6.dif_nzero, hsb, hi2, hse, hsm]
        rw [hss]
        (repeat' (first | assumption | exact lst_sz _ | exact bk_ok _ | exact ex_le_refl rfl | (rw [InK_i64]; omega) | (rw [InK_u8]; omega) | (rw [InK_u64]; omega) | omega | (unfold sz; omega) | (rw [R6.bk_length]; unfold sz; omega) | (rw [R6.bk_length]; omega) | rfl | apply And.intro))
  · obtain rfl : k = L.length := by omega
    have N0 := R6.need_bk h1 h6 hl hok
    have C0 := R6.check_bk h1 h6 hl hok
    have zz : sz (R6.spareU L n L.length).length := by unfold sz; omega
    simp only [go_sem, ↓reduceIte, Nat.reduceLT, Nat.reduceLeDiff, Nat.reduceEqDiff, Nat.reduceAdd, Nat.reduceSub, Nat.reduceMul, Nat.reduceBEq, reduceCtorEq, Int.reduceLT, Int.reduceLE, Int.reduceEq, Int.reduceNe, Int.reduceBEq, Int.reduceBNe, Int.reduceAdd, Int.reduceSub, Int.reduceNeg, Int.reduceToNat, beq_self_eq_true, Option.all_some, Option.all_none, Option.some_beq_some, Bool.and_self, List.size_toArray, cond_true, cond_false, beq_true, beq_false, bne_self_eq_false, List.append_eq, hlt, N0, C0]
    (repeat' (first | assumption | exact lst_sz _ | exact bk_ok _ | exact ex_le_refl rfl | (rw [InK_i64]; omega) | (rw [InK_u8]; omega) | (rw [InK_u64]; omega) | omega | (unfold sz; omega) | (rw [R6.bk_length]; unfold sz; omega) | (rw [R6.bk_length]; omega) | rfl | apply And.intro))
noncomputable def tab_SaysSpared : Tab := tabOf (fun p : (Nat) × (Nat) × (List Nat) × (Nat) => match p with | (f, s, A, one) => [talkP f s A, u8P one]) (fun p : (Nat) × (Nat) × (List Nat) × (Nat) => match p with | (f, s, A, one) => TalkOK f s A ∧ one < 256) (fun p : (Nat) × (Nat) × (List Nat) × (Nat) => match p with | (f, s, A, one) => boolP true)
theorem tab_SaysSpared_eq (f : Nat) (s : Nat) (A : List Nat) (one : Nat) : tab_SaysSpared [talkP f s A, u8P one] = some (TalkOK f s A ∧ one < 256, .p (boolP true)) := tabOf_eq (enc := fun p : (Nat) × (Nat) × (List Nat) × (Nat) => match p with | (f, s, A, one) => [talkP f s A, u8P one]) (pre := fun p : (Nat) × (Nat) × (List Nat) × (Nat) => match p with | (f, s, A, one) => TalkOK f s A ∧ one < 256) (out := fun p : (Nat) × (Nat) × (List Nat) × (Nat) => match p with | (f, s, A, one) => boolP true) (by rintro ⟨f, s, A, one⟩ ⟨f', s', A', one'⟩ h; simp at h; first | (simp [h]; done) | omega | (simp [h]; omega)) (f, s, A, one)
theorem tab_SaysSpared_ok : TabOK Tryd.prog 8 tab_SaysSpared := tabOf_ok (by rintro ⟨f, s, A, one⟩ h; exact SaysSpared_spec f s A one h)
noncomputable abbrev ent_SaysSpared : FuncId × List Nat × Tab := (8, [], tab_SaysSpared)
attribute [go_sem] tab_SaysSpared_eq
end Go.V
