/-
  Contract of the law SaysFewest. Conditions: none.
-/
import Derived.Test.YthhfgcejamfinaaDoorC06d
import Derived.Test.YthhfgcejamfinaaDoorP6H
set_option linter.unusedVariables false
set_option linter.unusedSimpArgs false
set_option linter.deprecated false
namespace Go.V
open Go.Proofs
set_option maxRecDepth 100000
set_option maxHeartbeats 4000000

def bstP (b : Option Nat) : PV := match b with
  | none => .val (.slice none 0 0)
  | some x => ints (R6.lst x)
theorem bstP_some (x : Nat) : bstP (some x) = ints (R6.lst x) := rfl
theorem bstP_none : bstP none = .val (.slice none 0 0) := rfl

theorem SaysFewest_spec (f : Nat) (s : Nat) (A : List Nat) (one : Nat) (hpre : TalkOK f s A ∧ one < 256) : Ret Tryd.prog 6 [talkP f s A, u8P one] (boolP true) := by
  refine fn_of (T := [ent_made, ent_members, ent_followsL, ent_cmpLL, ent_Fewest6s, ent_same, ent_works]) (N := 90) (RO := [2, 5]) (CH := [13, 14]) (KS := [0, 1, 2, 4, 5, 6, 7, 8, 9, 10, 11, 12, 13, 14, 34, 35, 36, 70]) (NS := []) (fun args w => Tryd.call6 args w) Tryd.func6 rfl rfl (by simp) mixed (by kernel_rfl) ⟨tab_made_ok, tab_members_ok, tab_followsL_ok, tab_cmpLL_ok, tab_Fewest6s_ok, tab_same_ok, tab_works_ok, trivial⟩ ?_
  simp only [go_sem, ↓reduceIte, Nat.reduceLT, Nat.reduceLeDiff, Nat.reduceEqDiff, Nat.reduceAdd, Nat.reduceSub, Nat.reduceMul, Nat.reduceBEq, reduceCtorEq, Int.reduceLT, Int.reduceLE, Int.reduceEq, Int.reduceNe, Int.reduceBEq, Int.reduceBNe, Int.reduceAdd, Int.reduceSub, Int.reduceNeg, Int.reduceToNat, beq_self_eq_true, Option.all_some, Option.all_none, Option.some_beq_some, Bool.and_self, List.size_toArray, cond_true, cond_false, beq_true, beq_false, bne_self_eq_false, List.append_eq]
  obtain ⟨ht, ho⟩ := hpre
  have hlen := ht.2.2.1
  obtain ⟨n, hn⟩ : ∃ n, 1 + f % 6 = n := ⟨_, rfl⟩
  have h1 : 1 ≤ n := by omega
  have h6 : n ≤ 6 := by omega
  obtain ⟨L, hL⟩ : ∃ L, R6.madeL (2 ^ n - 1) A (s % 9) = L := ⟨_, rfl⟩
  have hok : R6.Ok L n := hL ▸ R6.madeL_ok
  have hl : L.length ≤ 8 := by rw [← hL, R6.madeL_length]; omega
  have h64 := R6.pow64 (show n ≤ 6 by omega)
  have hp := Nat.two_pow_pos n
  have b1 := bits_and64 (show one < 18446744073709551616 by omega) (show 2 ^ n - 1 < 18446744073709551616 by omega)
  have l1 := R6.and_full_lt one n
  have hrs : RsOK L := ⟨by omega, fun r hr => by have := hok r hr; omega⟩
  have k1 := bk_ok L
  simp only [go_sem, ↓reduceIte, Nat.reduceLT, Nat.reduceLeDiff, Nat.reduceEqDiff, Nat.reduceAdd, Nat.reduceSub, Nat.reduceMul, Nat.reduceBEq, reduceCtorEq, Int.reduceLT, Int.reduceLE, Int.reduceEq, Int.reduceNe, Int.reduceBEq, Int.reduceBNe, Int.reduceAdd, Int.reduceSub, Int.reduceNeg, Int.reduceToNat, beq_self_eq_true, Option.all_some, Option.all_none, Option.some_beq_some, Bool.and_self, List.size_toArray, cond_true, cond_false, beq_true, beq_false, bne_self_eq_false, List.append_eq, u8s_one, u8s_norm, u8s_take hlen, lof_length, hn, hL, shl_one, full_nat, b1]
  generalize one &&& (2 ^ n - 1) = a at *
  have z2 := lst_sz a
  refine ⟨by omega, ht, by rw [InK_u64]; omega, ⟨by omega, by rw [InK_u64]; omega⟩, by rw [InK_u64]; omega, ⟨hrs, h6, by omega⟩, ⟨by omega, by rw [InK_u64]; omega⟩, ?_⟩
  obtain ⟨w, hw⟩ : ∃ w, R6.clo L n a = w := ⟨_, rfl⟩
  obtain ⟨p, hpd⟩ : ∃ p : Nat → Bool, (fun x => R6.clo L n x == w) = p := ⟨_, rfl⟩
  refine vfor [5,6,7,8,9,10,34,35] [] [] (2 ^ n) (fun k => True) (fun k => ⟨[(5,.p (.ref [natP n, sents (R6.bk L)] 0)),(6,.p (prsP L)),(7,.p (u64P a)),(8,.p (u64P w)),(9,.p (bstP (R6.bestU p k))),(10,.p (boolP (R6.bestU p k).isSome)),(34,.p (u64P (2 ^ n))),(35,.p (u64P k))], []⟩) (by first | rfl | (simp only [go_sem, ↓reduceIte, Nat.reduceLT, Nat.reduceLeDiff, Nat.reduceEqDiff, Nat.reduceAdd, Nat.reduceSub, Nat.reduceMul, Nat.reduceBEq, reduceCtorEq, Int.reduceLT, Int.reduceLE, Int.reduceEq, Int.reduceNe, Int.reduceBEq, Int.reduceBNe, Int.reduceAdd, Int.reduceSub, Int.reduceNeg, Int.reduceToNat, beq_self_eq_true, Option.all_some, Option.all_none, Option.some_beq_some, Bool.and_self, List.size_toArray, cond_true, cond_false, beq_true, beq_false, bne_self_eq_false, List.append_eq, hw]; first | done | rfl)) trivial ?_
  intro k hk _
  by_cases hlt : k < 2 ^ n
  · have hpk : p k = (R6.clo L n k == w) := by rw [← hpd]
    have hc : (((R6.clo L n k : Nat) : Int) == (w : Int)) = p k := by rw [hpk, cast_beq]
    have hbs : R6.bestU p (k + 1) = if (p k && (match R6.bestU p k with
      | none => true
      | some b => R6.bet k b)) = true then some k else R6.bestU p k := rfl
    have z3 := lst_sz k
    by_cases h2 : p k = true
    · cases hb : R6.bestU p k with
      | none =>
        rw [hb, h2] at hbs
        simp only [Bool.and_self, if_true] at hbs
        simp only [go_sem, ↓reduceIte, Nat.reduceLT, Nat.reduceLeDiff, Nat.reduceEqDiff, Nat.reduceAdd, Nat.reduceSub, Nat.reduceMul, Nat.reduceBEq, reduceCtorEq, Int.reduceLT, Int.reduceLE, Int.reduceEq, Int.reduceNe, Int.reduceBEq, Int.reduceBNe, Int.reduceAdd, Int.reduceSub, Int.reduceNeg, Int.reduceToNat, beq_self_eq_true, Option.all_some, Option.all_none, Option.some_beq_some, Bool.and_self, List.size_toArray, cond_true, cond_false, beq_true, beq_false, bne_self_eq_false, List.append_eq, hlt, hc, h2, bstP_none]
        rw [hbs]
        (repeat' (first | assumption | (rw [InK_i64]; omega) | (rw [InK_u8]; omega) | (rw [InK_u64]; omega) | omega | rfl | apply And.intro))
      | some b =>
        have hbl := R6.bestU_lt hb
        have z4 := lst_sz b
        rw [hb, h2, Bool.true_and] at hbs
        simp only at hbs
        by_cases h3 : (R6.lst k).length < (R6.lst b).length
        · have hbet : R6.bet k b = true := by simp [R6.bet, h3]
          rw [if_pos hbet] at hbs
          simp only [go_sem, ↓reduceIte, Nat.reduceLT, Nat.reduceLeDiff, Nat.reduceEqDiff, Nat.reduceAdd, Nat.reduceSub, Nat.reduceMul, Nat.reduceBEq, reduceCtorEq, Int.reduceLT, Int.reduceLE, Int.reduceEq, Int.reduceNe, Int.reduceBEq, Int.reduceBNe, Int.reduceAdd, Int.reduceSub, Int.reduceNeg, Int.reduceToNat, beq_self_eq_true, Option.all_some, Option.all_none, Option.some_beq_some, Bool.and_self, List.size_toArray, cond_true, cond_false, beq_true, beq_false, bne_self_eq_false, List.append_eq, hlt, hc, h2, bstP_some, h3]
          rw [hbs]
          (repeat' (first | assumption | (rw [InK_i64]; omega) | (rw [InK_u8]; omega) | (rw [InK_u64]; omega) | omega | rfl | apply And.intro))
        · by_cases h4 : (R6.lst k).length = (R6.lst b).length
          · by_cases h5 : cmpL (R6.lst k) (R6.lst b) < 0
            · have hbet : R6.bet k b = true := by simp [R6.bet, h4, h5]
              rw [if_pos hbet] at hbs
              simp only [go_sem, ↓reduceIte, Nat.reduceLT, Nat.reduceLeDiff, Nat.reduceEqDiff, Nat.reduceAdd, Nat.reduceSub, Nat.reduceMul, Nat.reduceBEq, reduceCtorEq, Int.reduceLT, Int.reduceLE, Int.reduceEq, Int.reduceNe, Int.reduceBEq, Int.reduceBNe, Int.reduceAdd, Int.reduceSub, Int.reduceNeg, Int.reduceToNat, beq_self_eq_true, Option.all_some, Option.all_none, Option.some_beq_some, Bool.and_self, List.size_toArray, cond_true, cond_false, beq_true, beq_false, bne_self_eq_false, List.append_eq, hlt, hc, h2, bstP_some, h3, show (((R6.lst k).length : Int) == ((R6.lst b).length : Int)) = true by simp [h4], h5]
              rw [hbs]
              (repeat' (first | assumption | (rw [InK_i64]; omega) | (rw [InK_u8]; omega) | (rw [InK_u64]; omega) | omega | rfl | apply And.intro))
            · have hbet : ¬ R6.bet k b = true := by simp [R6.bet, h3, h5]
              rw [if_neg hbet] at hbs
              simp only [go_sem, ↓reduceIte, Nat.reduceLT, Nat.reduceLeDiff, Nat.reduceEqDiff, Nat.reduceAdd, Nat.reduceSub, Nat.reduceMul, Nat.reduceBEq, reduceCtorEq, Int.reduceLT, Int.reduceLE, Int.reduceEq, Int.reduceNe, Int.reduceBEq, Int.reduceBNe, Int.reduceAdd, Int.reduceSub, Int.reduceNeg, Int.reduceToNat, beq_self_eq_true, Option.all_some, Option.all_none, Option.some_beq_some, Bool.and_self, List.size_toArray, cond_true, cond_false, beq_true, beq_false, bne_self_eq_false, List.append_eq, hlt, hc, h2, bstP_some, h3, show (((R6.lst k).length : Int) == ((R6.lst b).length : Int)) = true by simp [h4], h5]
              rw [hbs]
              (repeat' (first | assumption | (rw [InK_i64]; omega) | (rw [InK_u8]; omega) | (rw [InK_u64]; omega) | omega | rfl | apply And.intro))
          · have hbet : ¬ R6.bet k b = true := by simp [R6.bet, h3, h4]
            rw [if_neg hbet] at hbs
            simp only [go_sem, ↓reduceIte, Nat.reduceLT, Nat.reduceLeDiff, Nat.reduceEqDiff, Nat.reduceAdd, Nat.reduceSub, Nat.reduceMul, Nat.reduceBEq, reduceCtorEq, Int.reduceLT, Int.reduceLE, Int.reduceEq, Int.reduceNe, Int.reduceBEq, Int.reduceBNe, Int.reduceAdd, Int.reduceSub, Int.reduceNeg, Int.reduceToNat, beq_self_eq_true, Option.all_some, Option.all_none, Option.some_beq_some, Bool.and_self, List.size_toArray, cond_true, cond_false, beq_true, beq_false, bne_self_eq_false, List.append_eq, hlt, hc, h2, bstP_some, h3, show (((R6.lst k).length : Int) == ((R6.lst b).length : Int)) = false by simp; omega]
            rw [hbs]
            (repeat' (first | assumption | (rw [InK_i64]; omega) | (rw [InK_u8]; omega) | (rw [InK_u64]; omega) | omega | rfl | apply And.intro))
    · rw [Bool.not_eq_true] at h2
      rw [h2, Bool.false_and, if_neg (by decide)] at hbs
      simp only [go_sem, ↓reduceIte, Nat.reduceLT, Nat.reduceLeDiff, Nat.reduceEqDiff, Nat.reduceAdd, Nat.reduceSub, Nat.reduceMul, Nat.reduceBEq, reduceCtorEq, Int.reduceLT, Int.reduceLE, Int.reduceEq, Int.reduceNe, Int.reduceBEq, Int.reduceBNe, Int.reduceAdd, Int.reduceSub, Int.reduceNeg, Int.reduceToNat, beq_self_eq_true, Option.all_some, Option.all_none, Option.some_beq_some, Bool.and_self, List.size_toArray, cond_true, cond_false, beq_true, beq_false, bne_self_eq_false, List.append_eq, hlt, hc, h2]
      rw [hbs]
      (repeat' (first | assumption | (rw [InK_i64]; omega) | (rw [InK_u8]; omega) | (rw [InK_u64]; omega) | omega | rfl | apply And.intro))
  · obtain rfl : k = 2 ^ n := by omega
    obtain ⟨b, hb, hf⟩ := R6.few_bk h1 h6 hl hok l1
    rw [hw, hpd] at hb
    have A1 := R6.asked_bk h1 h6 hl hok l1
    have z5 := lst_sz b
    simp only [go_sem, ↓reduceIte, Nat.reduceLT, Nat.reduceLeDiff, Nat.reduceEqDiff, Nat.reduceAdd, Nat.reduceSub, Nat.reduceMul, Nat.reduceBEq, reduceCtorEq, Int.reduceLT, Int.reduceLE, Int.reduceEq, Int.reduceNe, Int.reduceBEq, Int.reduceBNe, Int.reduceAdd, Int.reduceSub, Int.reduceNeg, Int.reduceToNat, beq_self_eq_true, Option.all_some, Option.all_none, Option.some_beq_some, Bool.and_self, List.size_toArray, cond_true, cond_false, beq_true, beq_false, bne_self_eq_false, List.append_eq, hlt, hb, hf, bstP_some, A1]
    (repeat' (first | assumption | exact lst_sz _ | exact bk_ok _ | exact ex_le_refl rfl | (rw [InK_i64]; omega) | (rw [InK_u8]; omega) | (rw [InK_u64]; omega) | omega | (unfold sz; omega) | (rw [R6.bk_length]; unfold sz; omega) | (rw [R6.bk_length]; omega) | apply And.intro))
noncomputable def tab_SaysFewest : Tab := tabOf (fun p : (Nat) × (Nat) × (List Nat) × (Nat) => match p with | (f, s, A, one) => [talkP f s A, u8P one]) (fun p : (Nat) × (Nat) × (List Nat) × (Nat) => match p with | (f, s, A, one) => TalkOK f s A ∧ one < 256) (fun p : (Nat) × (Nat) × (List Nat) × (Nat) => match p with | (f, s, A, one) => boolP true)
theorem tab_SaysFewest_eq (f : Nat) (s : Nat) (A : List Nat) (one : Nat) : tab_SaysFewest [talkP f s A, u8P one] = some (TalkOK f s A ∧ one < 256, .p (boolP true)) := tabOf_eq (enc := fun p : (Nat) × (Nat) × (List Nat) × (Nat) => match p with | (f, s, A, one) => [talkP f s A, u8P one]) (pre := fun p : (Nat) × (Nat) × (List Nat) × (Nat) => match p with | (f, s, A, one) => TalkOK f s A ∧ one < 256) (out := fun p : (Nat) × (Nat) × (List Nat) × (Nat) => match p with | (f, s, A, one) => boolP true) (by rintro ⟨f, s, A, one⟩ ⟨f', s', A', one'⟩ h; simp at h; first | (simp [h]; done) | omega | (simp [h]; omega)) (f, s, A, one)
theorem tab_SaysFewest_ok : TabOK Tryd.prog 6 tab_SaysFewest := tabOf_ok (by rintro ⟨f, s, A, one⟩ h; exact SaysFewest_spec f s A one h)
noncomputable abbrev ent_SaysFewest : FuncId × List Nat × Tab := (6, [], tab_SaysFewest)
attribute [go_sem] tab_SaysFewest_eq
end Go.V
