/-
  Contract of the law SaysClosed. Conditions: none.
-/
import Derived.Test.YthhfgcejamfinaaGreatDoorC06d
import Derived.Test.YthhfgcejamfinaaGreatDoorP6q
set_option linter.unusedVariables false
set_option linter.unusedSimpArgs false
set_option linter.deprecated false
namespace Go.V
open Go.Proofs
set_option maxRecDepth 100000
set_option maxHeartbeats 4000000

theorem cmpL_orders {l : List (List Int)} : Orders cmpL l where
  irrefl x _ := by rw [cmpL_refl]; omega
  trans x _ y _ z _ h1 h2 := cmpL_lt_trans h1 h2
  ntrans x _ y _ z _ h1 h2 := cmpL_ntrans h1 h2
theorem lof_u64_four (a b c d : Nat) : [u64P a, u64P b, u64P c, u64P d] = lof u64P [a, b, c, d] := rfl

theorem SaysClosed_spec (f : Nat) (s : Nat) (A : List Nat) (one : Nat) (two : Nat) (hpre : TalkOK f s A ∧ one < 256 ∧ two < 256) : Ret Tryz.prog 3 [talkP f s A, u8P one, u8P two] (boolP true) := by
  refine fn_of (T := [ent_made, ent_members, ent_closedL, ent_followsL, ent_readLL, ent_All6s, ent_Closed6s, ent_Follows6s, ent_lists, ent_same, ent_works]) (N := 204) (RO := [3, 7, 51, 85]) (CH := [13, 18, 19, 20, 21, 22, 23, 24, 29]) (KS := [0, 1, 2, 3, 6, 7, 8, 9, 10, 11, 12, 13, 14, 15, 17, 18, 19, 20, 21, 22, 23, 24, 25, 26, 27, 28, 29, 30, 41, 42, 43, 47, 68, 85, 86, 87, 88, 128, 171]) (NS := [10, 52]) (fun args w => Tryz.call3 args w) Tryz.func3 rfl rfl (by simp) mixed (by kernel_rfl) ⟨tab_made_ok, tab_members_ok, tab_closedL_ok, tab_followsL_ok, tab_readLL_ok, tab_All6s_ok, tab_Closed6s_ok, tab_Follows6s_ok, tab_lists_ok, tab_same_ok, tab_works_ok, trivial⟩ ?_
  simp only [go_sem, ↓reduceIte, Nat.reduceLT, Nat.reduceLeDiff, Nat.reduceEqDiff, Nat.reduceAdd, Nat.reduceSub, Nat.reduceMul, Nat.reduceBEq, reduceCtorEq, Int.reduceLT, Int.reduceLE, Int.reduceEq, Int.reduceNe, Int.reduceBEq, Int.reduceBNe, Int.reduceAdd, Int.reduceSub, Int.reduceNeg, Int.reduceToNat, beq_self_eq_true, Option.all_some, Option.all_none, Option.some_beq_some, Bool.and_self, List.size_toArray, cond_true, cond_false, beq_true, beq_false, bne_self_eq_false, List.append_eq]
  obtain ⟨ht, ho, hw⟩ := hpre
  have hlen := ht.2.2.1
  obtain ⟨n, hn⟩ : ∃ n, 1 + f % 6 = n := ⟨_, rfl⟩
  have h1 : 1 ≤ n := by omega
  have h6 : n ≤ 6 := by omega
  obtain ⟨L, hL⟩ : ∃ L, R6.madeL (2 ^ n - 1) A (s % 9) = L := ⟨_, rfl⟩
  have hok : R6.Ok L n := hL ▸ R6.madeL_ok
  have hl : L.length ≤ 8 := by rw [← hL, R6.madeL_length]; omega
  have h64 := R6.pow64 (show n ≤ 6 by omega)
  have hp := Nat.two_pow_pos n
  have b1 := bits_and64 (show one < 18446744073709551616 by omega) (show 2 ^ n - 1 < 18446744073709551616 by omega)
  have b2 := bits_and64 (show two < 18446744073709551616 by omega) (show 2 ^ n - 1 < 18446744073709551616 by omega)
  have la := R6.and_full_lt one n
  have lb := R6.and_full_lt two n
  have hrs : RsOK L := ⟨by omega, fun r hr => by have := hok r hr; omega⟩
  have k1 := bk_ok L
  have ef : ((2 ^ n - 1 : Nat) : Int) + 1 = ((2 ^ n : Nat) : Int) := by omega
  simp only [go_sem, ↓reduceIte, Nat.reduceLT, Nat.reduceLeDiff, Nat.reduceEqDiff, Nat.reduceAdd, Nat.reduceSub, Nat.reduceMul, Nat.reduceBEq, reduceCtorEq, Int.reduceLT, Int.reduceLE, Int.reduceEq, Int.reduceNe, Int.reduceBEq, Int.reduceBNe, Int.reduceAdd, Int.reduceSub, Int.reduceNeg, Int.reduceToNat, beq_self_eq_true, Option.all_some, Option.all_none, Option.some_beq_some, Bool.and_self, List.size_toArray, cond_true, cond_false, beq_true, beq_false, bne_self_eq_false, List.append_eq, u8s_one, u8s_norm, u8s_take hlen, lof_length, hn, hL, shl_one, full_nat, ef]
  refine ⟨by omega, ht, ⟨by omega, by rw [InK_u64]; omega⟩, by rw [InK_u64]; omega, by rw [InK_u64]; omega, ?_⟩
  refine vfor [1,2,7,8,9,10,41,42] [10] [.nilS 10 34 1] (2 ^ n) (fun k => True) (fun k => ⟨[(1,.p (u8P one)),(2,.p (u8P two)),(7,.p (.ref [natP n, sents (R6.bk L)] 0)),(8,.p (prsP L)),(9,.p (u64P (2 ^ n - 1))),(10,.sl 10),(41,.p (u64P (2 ^ n))),(42,.p (u64P k))], [(10,.vec 34 1 (lof ints (R6.wantU L k)))]⟩) (by first | rfl | (simp only [go_sem, ↓reduceIte, Nat.reduceLT, Nat.reduceLeDiff, Nat.reduceEqDiff, Nat.reduceAdd, Nat.reduceSub, Nat.reduceMul, Nat.reduceBEq, reduceCtorEq, Int.reduceLT, Int.reduceLE, Int.reduceEq, Int.reduceNe, Int.reduceBEq, Int.reduceBNe, Int.reduceAdd, Int.reduceSub, Int.reduceNeg, Int.reduceToNat, beq_self_eq_true, Option.all_some, Option.all_none, Option.some_beq_some, Bool.and_self, List.size_toArray, cond_true, cond_false, beq_true, beq_false, bne_self_eq_false, List.append_eq]; first | done | rfl)) trivial ?_
  intro k hk _
  by_cases hlt : k < 2 ^ n
  · have hs := R6.wantU_succ L k
    have hwl := R6.wantU_length L k
    by_cases hc : R6.closedM L k = true
    · rw [if_pos hc] at hs
      simp only [go_sem, ↓reduceIte, Nat.reduceLT, Nat.reduceLeDiff, Nat.reduceEqDiff, Nat.reduceAdd, Nat.reduceSub, Nat.reduceMul, Nat.reduceBEq, reduceCtorEq, Int.reduceLT, Int.reduceLE, Int.reduceEq, Int.reduceNe, Int.reduceBEq, Int.reduceBNe, Int.reduceAdd, Int.reduceSub, Int.reduceNeg, Int.reduceToNat, beq_self_eq_true, Option.all_some, Option.all_none, Option.some_beq_some, Bool.and_self, List.size_toArray, cond_true, cond_false, beq_true, beq_false, bne_self_eq_false, List.append_eq, hlt, hc]
      rw [hs]
      exact ⟨⟨hrs, by omega⟩, by omega, by omega, by rw [InK_u64]; omega, rfl⟩
    · rw [if_neg hc, List.append_nil] at hs
      rw [Bool.not_eq_true] at hc
      simp only [go_sem, ↓reduceIte, Nat.reduceLT, Nat.reduceLeDiff, Nat.reduceEqDiff, Nat.reduceAdd, Nat.reduceSub, Nat.reduceMul, Nat.reduceBEq, reduceCtorEq, Int.reduceLT, Int.reduceLE, Int.reduceEq, Int.reduceNe, Int.reduceBEq, Int.reduceBNe, Int.reduceAdd, Int.reduceSub, Int.reduceNeg, Int.reduceToNat, beq_self_eq_true, Option.all_some, Option.all_none, Option.some_beq_some, Bool.and_self, List.size_toArray, cond_true, cond_false, beq_true, beq_false, bne_self_eq_false, List.append_eq, hlt, hc]
      rw [hs]
      exact ⟨⟨hrs, by omega⟩, by rw [InK_u64]; omega, rfl⟩
  · obtain rfl : k = 2 ^ n := by omega
    simp only [go_sem, ↓reduceIte, Nat.reduceLT, Nat.reduceLeDiff, Nat.reduceEqDiff, Nat.reduceAdd, Nat.reduceSub, Nat.reduceMul, Nat.reduceBEq, reduceCtorEq, Int.reduceLT, Int.reduceLE, Int.reduceEq, Int.reduceNe, Int.reduceBEq, Int.reduceBNe, Int.reduceAdd, Int.reduceSub, Int.reduceNeg, Int.reduceToNat, beq_self_eq_true, Option.all_some, Option.all_none, Option.some_beq_some, Bool.and_self, List.size_toArray, cond_true, cond_false, beq_true, beq_false, bne_self_eq_false, List.append_eq, hlt]
    have hwl := R6.wantU_length L (2 ^ n)
    have hwr := R6.wantU_row (L := L) (k := 2 ^ n)
    have hall := R6.all_bk h1 h6 hl hok
    generalize R6.wantU L (2 ^ n) = W at *
    refine vcall_sort1 sortLaw7 (f := ints) (c := cmpL) (by first | (simp only [go_sem, ↓reduceIte, Nat.reduceLT, Nat.reduceLeDiff, Nat.reduceEqDiff, Nat.reduceAdd, Nat.reduceSub, Nat.reduceMul, Nat.reduceBEq, reduceCtorEq, Int.reduceLT, Int.reduceLE, Int.reduceEq, Int.reduceNe, Int.reduceBEq, Int.reduceBNe, Int.reduceAdd, Int.reduceSub, Int.reduceNeg, Int.reduceToNat, beq_self_eq_true, Option.all_some, Option.all_none, Option.some_beq_some, Bool.and_self, List.size_toArray, cond_true, cond_false, beq_true, beq_false, bne_self_eq_false, List.append_eq]; done) | (simp only [go_sem, ↓reduceIte, Nat.reduceLT, Nat.reduceLeDiff, Nat.reduceEqDiff, Nat.reduceAdd, Nat.reduceSub, Nat.reduceMul, Nat.reduceBEq, reduceCtorEq, Int.reduceLT, Int.reduceLE, Int.reduceEq, Int.reduceNe, Int.reduceBEq, Int.reduceBNe, Int.reduceAdd, Int.reduceSub, Int.reduceNeg, Int.reduceToNat, beq_self_eq_true, Option.all_some, Option.all_none, Option.some_beq_some, Bool.and_self, List.size_toArray, cond_true, cond_false, beq_true, beq_false, bne_self_eq_false, List.append_eq]; rfl)) (by decide) (fun _ _ => rfl) (by omega) cmpL_orders (fun x hx y hy => cmpLL_spec x y ⟨by have := hwr x hx; unfold sz; omega, by have := hwr y hy; unfold sz; omega⟩) (fun l' hp hs => ?_)
    have e := isort_unique (cmpL_tot _) hp hs
    have hlr : ∀ r ∈ l', r.length ≤ 8 := fun r hr => hwr r (hp.mem_iff.1 hr)
    have hll : l'.length ≤ 2 ^ n := by rw [hp.length_eq]; exact hwl
    rw [← e] at hall
    have hz : sz l'.length ∧ ∀ r ∈ l', sz r.length := ⟨by unfold sz; omega, fun r hr => by have := hlr r hr; unfold sz; omega⟩
    have C0 := R6.check_bk h1 h6 hl hok
    have b3 := bits_and64 (show one &&& (2 ^ n - 1) < 18446744073709551616 by omega) (show two &&& (2 ^ n - 1) < 18446744073709551616 by omega)
    have b4 := bits_or64 (show one &&& (2 ^ n - 1) < 18446744073709551616 by omega) (show two &&& (2 ^ n - 1) < 18446744073709551616 by omega)
    simp only [go_sem, ↓reduceIte, Nat.reduceLT, Nat.reduceLeDiff, Nat.reduceEqDiff, Nat.reduceAdd, Nat.reduceSub, Nat.reduceMul, Nat.reduceBEq, reduceCtorEq, Int.reduceLT, Int.reduceLE, Int.reduceEq, Int.reduceNe, Int.reduceBEq, Int.reduceBNe, Int.reduceAdd, Int.reduceSub, Int.reduceNeg, Int.reduceToNat, beq_self_eq_true, Option.all_some, Option.all_none, Option.some_beq_some, Bool.and_self, List.size_toArray, cond_true, cond_false, beq_true, beq_false, bne_self_eq_false, List.append_eq, hall, C0, b1, b2, b3, b4]
    generalize one &&& (2 ^ n - 1) = a at *
    generalize two &&& (2 ^ n - 1) = b at *
    have lw : a ||| b < 2 ^ n := Nat.or_lt_two_pow la lb
    have lv : a &&& b < 2 ^ n := Nat.lt_of_le_of_lt Nat.and_le_left la
    have ab : R6.sub (a &&& b) a = true := R6.and_sub_left a b
    refine ⟨k1, hz, by rw [InK_u64]; omega, by rw [InK_u64]; omega, ?_⟩
    refine vfor [7,8,14,15,85,86,87] [] [] 4 (fun k => True) (fun k => ⟨[(7,.p (.ref [natP n, sents (R6.bk L)] 0)),(8,.p (prsP L)),(14,.p (u64P a)),(15,.p (u64P b)),(85,.p (.list .tight 1 (lof u64P [a, b, a &&& b, a ||| b]))),(86,.p (intP 4)),(87,.p (natP k))], []⟩) rfl trivial ?_
    intro k hk _
    by_cases hlt : k < 4
    · obtain ⟨Y, hY⟩ : ∃ Y, [a, b, a &&& b, a ||| b] = Y := ⟨_, rfl⟩
      have hYl : Y.length = 4 := by rw [← hY]; rfl
      have hY2 : ∀ x ∈ Y, x < 2 ^ n := by
        rw [← hY]; intro x hx
        simp only [List.mem_cons, List.not_mem_nil, or_false] at hx
        rcases hx with rfl | rfl | rfl | rfl <;> assumption
      obtain ⟨x, hx⟩ := get_some (show k < Y.length by omega)
      have hx2 := hY2 x (List.mem_of_getElem? hx)
      have A1 := R6.asked_bk h1 h6 hl hok hx2
      have M1 := R6.askedM_bk h1 h6 hl hok hx2
      have C1 := R6.closed_bk h1 h6 hl hok hx2
      have F1 := R6.fol_bk h1 h6 hl hok hx2
      have c1 := R6.clo_lt L n x
      have z1 := lst_sz x
      have z2 := lst_sz (R6.clo L n x)
      have hlt' : (k : Int) < 4 := by omega
      rw [F1] at C1
      rw [hY]
      simp only [go_sem, ↓reduceIte, Nat.reduceLT, Nat.reduceLeDiff, Nat.reduceEqDiff, Nat.reduceAdd, Nat.reduceSub, Nat.reduceMul, Nat.reduceBEq, reduceCtorEq, Int.reduceLT, Int.reduceLE, Int.reduceEq, Int.reduceNe, Int.reduceBEq, Int.reduceBNe, Int.reduceAdd, Int.reduceSub, Int.reduceNeg, Int.reduceToNat, beq_self_eq_true, Option.all_some, Option.all_none, Option.some_beq_some, Bool.and_self, List.size_toArray, cond_true, cond_false, beq_true, beq_false, bne_self_eq_false, List.append_eq, hlt', hYl, lof_getD hx, A1, M1, F1, C1]
      (repeat' (first | assumption | exact lst_sz _ | exact bk_ok _ | exact ex_le_refl rfl | (rw [InK_i64]; omega) | (rw [InK_u8]; omega) | (rw [InK_u64]; omega) | omega | (unfold sz; omega) | (rw [R6.bk_length]; unfold sz; omega) | (rw [R6.bk_length]; omega) | rfl | apply And.intro))
    · have hlt' : ¬ (k : Int) < 4 := by omega
      obtain rfl : k = 4 := by omega
      have A1 := R6.asked_bk h1 h6 hl hok la
      have M1 := R6.askedM_bk h1 h6 hl hok la
      have F1 := R6.fol_bk h1 h6 hl hok la
      have A2 := R6.asked_bk h1 h6 hl hok lb
      have M2 := R6.askedM_bk h1 h6 hl hok lb
      have F2 := R6.fol_bk h1 h6 hl hok lb
      have c1 := R6.clo_lt L n a
      have c2 := R6.clo_lt L n b
      have R1 := R6.readL_lst h6 c1
      have R2 := R6.readL_lst h6 c2
      have hcc := R6.clo_closed (f := a) hok
      have hcd := R6.clo_closed (f := b) hok
      have hca := R6.closed_and hcc hcd
      have cab : R6.clo L n a &&& R6.clo L n b < 2 ^ n := Nat.lt_of_le_of_lt Nat.and_le_left c1
      have A3 := R6.asked_bk h1 h6 hl hok cab
      have M3 := R6.askedM_bk h1 h6 hl hok cab
      have F3 := R6.fol_bk h1 h6 hl hok cab
      have C3 := R6.closed_bk h1 h6 hl hok cab
      rw [F3, hca] at C3
      have A4 := R6.asked_bk h1 h6 hl hok c1
      have M4 := R6.askedM_bk h1 h6 hl hok c1
      have F4 := R6.fol_bk h1 h6 hl hok c1
      have cc := R6.clo_clo (f := a) hok
      have b5 := bits_and64 (show R6.clo L n a < 18446744073709551616 by omega) (show R6.clo L n b < 18446744073709551616 by omega)
      have z1 := lst_sz a
      have z2 := lst_sz b
      have z3 := lst_sz (R6.clo L n a)
      have z4 := lst_sz (R6.clo L n b)
      have z5 := lst_sz (R6.clo L n a &&& R6.clo L n b)
      simp only [go_sem, ↓reduceIte, Nat.reduceLT, Nat.reduceLeDiff, Nat.reduceEqDiff, Nat.reduceAdd, Nat.reduceSub, Nat.reduceMul, Nat.reduceBEq, reduceCtorEq, Int.reduceLT, Int.reduceLE, Int.reduceEq, Int.reduceNe, Int.reduceBEq, Int.reduceBNe, Int.reduceAdd, Int.reduceSub, Int.reduceNeg, Int.reduceToNat, beq_self_eq_true, Option.all_some, Option.all_none, Option.some_beq_some, Bool.and_self, List.size_toArray, cond_true, cond_false, beq_true, beq_false, bne_self_eq_false, List.append_eq, hlt', A1, M1, F1, A2, M2, F2, R1, R2, A3, M3, F3, C3, A4, M4, F4, cc, b5]
      (repeat' (first | assumption | exact lst_sz _ | exact bk_ok _ | exact ex_le_refl rfl | (rw [InK_i64]; omega) | (rw [InK_u8]; omega) | (rw [InK_u64]; omega) | omega | (unfold sz; omega) | (rw [R6.bk_length]; unfold sz; omega) | (rw [R6.bk_length]; omega) | rfl | apply And.intro))
noncomputable def tab_SaysClosed : Tab := tabOf (fun p : (Nat) × (Nat) × (List Nat) × (Nat) × (Nat) => match p with | (f, s, A, one, two) => [talkP f s A, u8P one, u8P two]) (fun p : (Nat) × (Nat) × (List Nat) × (Nat) × (Nat) => match p with | (f, s, A, one, two) => TalkOK f s A ∧ one < 256 ∧ two < 256) (fun p : (Nat) × (Nat) × (List Nat) × (Nat) × (Nat) => match p with | (f, s, A, one, two) => boolP true)
theorem tab_SaysClosed_eq (f : Nat) (s : Nat) (A : List Nat) (one : Nat) (two : Nat) : tab_SaysClosed [talkP f s A, u8P one, u8P two] = some (TalkOK f s A ∧ one < 256 ∧ two < 256, .p (boolP true)) := tabOf_eq (enc := fun p : (Nat) × (Nat) × (List Nat) × (Nat) × (Nat) => match p with | (f, s, A, one, two) => [talkP f s A, u8P one, u8P two]) (pre := fun p : (Nat) × (Nat) × (List Nat) × (Nat) × (Nat) => match p with | (f, s, A, one, two) => TalkOK f s A ∧ one < 256 ∧ two < 256) (out := fun p : (Nat) × (Nat) × (List Nat) × (Nat) × (Nat) => match p with | (f, s, A, one, two) => boolP true) (by rintro ⟨f, s, A, one, two⟩ ⟨f', s', A', one', two'⟩ h; simp at h; first | (simp [h]; done) | omega | (simp [h]; omega)) (f, s, A, one, two)
theorem tab_SaysClosed_ok : TabOK Tryz.prog 3 tab_SaysClosed := tabOf_ok (by rintro ⟨f, s, A, one, two⟩ h; exact SaysClosed_spec f s A one two h)
noncomputable abbrev ent_SaysClosed : FuncId × List Nat × Tab := (3, [], tab_SaysClosed)
attribute [go_sem] tab_SaysClosed_eq
end Go.V
