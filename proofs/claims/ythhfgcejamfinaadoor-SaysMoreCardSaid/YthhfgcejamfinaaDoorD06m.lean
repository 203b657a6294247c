/-
  Contract of the law SaysMore. Conditions: none.
-/
import Derived.Test.YthhfgcejamfinaaDoorC06d
import Derived.Test.YthhfgcejamfinaaDoorP6q
set_option linter.unusedVariables false
set_option linter.unusedSimpArgs false
set_option linter.deprecated false
namespace Go.V
open Go.Proofs
set_option maxRecDepth 100000
set_option maxHeartbeats 4000000

theorem SaysMore_spec (f : Nat) (s : Nat) (A : List Nat) (one : Nat) (two : Nat) (fr : Nat) (tt : Nat) (hpre : TalkOK f s A ∧ one < 256 ∧ two < 256 ∧ fr < 256 ∧ tt < 256) : Ret Tryd.prog 7 [talkP f s A, u8P one, u8P two, u8P fr, u8P tt] (boolP true) := by
  refine fn_of (T := [ent_made, ent_members, ent_cloneS, ent_sentence, ent_Follows6s, ent_readLL, ent_works]) (N := 149) (RO := [5, 11, 64]) (CH := [16, 17, 18, 19, 20, 21, 22, 52, 65, 66, 1000016, 2000016]) (KS := [0, 1, 2, 3, 4, 5, 10, 11, 13, 14, 15, 16, 17, 18, 19, 20, 21, 22, 23, 24, 25, 26, 27, 28]) (NS := [52, 65]) (fun args w => Tryd.call7 args w) Tryd.func7 rfl rfl (by simp) mixed (by kernel_rfl) ⟨tab_made_ok, tab_members_ok, tab_cloneS_ok, tab_sentence_ok, tab_Follows6s_ok, tab_readLL_ok, tab_works_ok, trivial⟩ ?_
  simp only [go_sem, ↓reduceIte, Nat.reduceLT, Nat.reduceLeDiff, Nat.reduceEqDiff, Nat.reduceAdd, Nat.reduceSub, Nat.reduceMul, Nat.reduceBEq, reduceCtorEq, Int.reduceLT, Int.reduceLE, Int.reduceEq, Int.reduceNe, Int.reduceBEq, Int.reduceBNe, Int.reduceAdd, Int.reduceSub, Int.reduceNeg, Int.reduceToNat, beq_self_eq_true, Option.all_some, Option.all_none, Option.some_beq_some, Bool.and_self, List.size_toArray, cond_true, cond_false, beq_true, beq_false, bne_self_eq_false, List.append_eq]
  obtain ⟨ht, ho, hw, hfr, htt⟩ := hpre
  have hlen := ht.2.2.1
  obtain ⟨n, hn⟩ : ∃ n, 1 + f % 5 = n := ⟨_, rfl⟩
  have h1 : 1 ≤ n := by omega
  have h5 : n ≤ 5 := by omega
  obtain ⟨L, hL⟩ : ∃ L, R6.madeL (2 ^ n - 1) A (s % 8) = L := ⟨_, rfl⟩
  have hok : R6.Ok L n := hL ▸ R6.madeL_ok
  have hl : L.length ≤ 7 := by rw [← hL, R6.madeL_length]; omega
  have h64 := R6.pow64 (show n ≤ 6 by omega)
  have hp := Nat.two_pow_pos n
  have b1 := bits_and64 (show one < 18446744073709551616 by omega) (show 2 ^ n - 1 < 18446744073709551616 by omega)
  have b2 := bits_and64 (show two < 18446744073709551616 by omega) (show 2 ^ n - 1 < 18446744073709551616 by omega)
  have b3 := bits_and64 (show fr < 18446744073709551616 by omega) (show 2 ^ n - 1 < 18446744073709551616 by omega)
  have b4 := bits_and64 (show tt < 18446744073709551616 by omega) (show 2 ^ n - 1 < 18446744073709551616 by omega)
  have l1 := R6.and_full_lt one n
  have l2 := R6.and_full_lt two n
  have l3 := R6.and_full_lt fr n
  have l4 := R6.and_full_lt tt n
  have b5 := bits_or64 (show one &&& (2 ^ n - 1) < 18446744073709551616 by omega) (show two &&& (2 ^ n - 1) < 18446744073709551616 by omega)
  have lw : (one &&& (2 ^ n - 1)) ||| (two &&& (2 ^ n - 1)) < 2 ^ n := Nat.or_lt_two_pow l1 l2
  have sw := R6.sub_or_left (one &&& (2 ^ n - 1)) (two &&& (2 ^ n - 1))
  simp only [go_sem, ↓reduceIte, Nat.reduceLT, Nat.reduceLeDiff, Nat.reduceEqDiff, Nat.reduceAdd, Nat.reduceSub, Nat.reduceMul, Nat.reduceBEq, reduceCtorEq, Int.reduceLT, Int.reduceLE, Int.reduceEq, Int.reduceNe, Int.reduceBEq, Int.reduceBNe, Int.reduceAdd, Int.reduceSub, Int.reduceNeg, Int.reduceToNat, beq_self_eq_true, Option.all_some, Option.all_none, Option.some_beq_some, Bool.and_self, List.size_toArray, cond_true, cond_false, beq_true, beq_false, bne_self_eq_false, List.append_eq, u8s_one, u8s_norm, u8s_take hlen, lof_length, hn, hL, shl_one, full_nat, b1, b2, b3, b4, b5]
  generalize one &&& (2 ^ n - 1) = a at *
  generalize two &&& (2 ^ n - 1) = b at *
  generalize fr &&& (2 ^ n - 1) = c at *
  generalize tt &&& (2 ^ n - 1) = d at *
  generalize a ||| b = w at *
  have h6 : n ≤ 6 := by omega
  have hl8 : L.length ≤ 8 := by omega
  have A1 := R6.asked_bk h1 h6 hl8 hok l1
  have M1 := R6.askedM_bk h1 h6 hl8 hok l1
  have F1 := R6.fol_bk h1 h6 hl8 hok l1
  have A2 := R6.asked_bk h1 h6 hl8 hok lw
  have M2 := R6.askedM_bk h1 h6 hl8 hok lw
  have F2 := R6.fol_bk h1 h6 hl8 hok lw
  have e : R6.bk L ++ [(R6.lst c, R6.lst d)] = R6.bk (L ++ [(c, d)]) := (R6.bk_append L [(c, d)]).symm
  have hok3 : R6.Ok (L ++ [(c, d)]) n := R6.ok_snoc hok l3 l4
  have hl3 : (L ++ [(c, d)]).length ≤ 8 := by simp; omega
  have A3 := R6.asked_bk h1 h6 hl3 hok3 l1
  have M3 := R6.askedM_bk h1 h6 hl3 hok3 l1
  have F3 := R6.fol_bk h1 h6 hl3 hok3 l1
  have c1 := R6.clo_lt L n a
  have c2 := R6.clo_lt L n w
  have c3 := R6.clo_lt (L ++ [(c, d)]) n a
  have R1 := R6.readL_lst h6 c1
  have R2 := R6.readL_lst h6 c2
  have R3 := R6.readL_lst h6 c3
  have S1 := R6.sub_clo (L := L) l1
  have S2 := R6.clo_mono hok lw sw
  have S3 := R6.clo_more hok3 l1
  have k1 := bk_ok L
  have k3 := bk_ok (L ++ [(c, d)])
  have z1 := R6.bk_length L
  have z2 := lst_sz a
  have z3 := lst_sz w
  have z4 := lst_sz (R6.clo L n a)
  have z5 := lst_sz (R6.clo L n w)
  have z6 := lst_sz (R6.clo (L ++ [(c, d)]) n a)
  have d1 := bits_andNot64 (show a < 18446744073709551616 by omega) (show R6.clo L n a < 18446744073709551616 by omega)
  have d2 := bits_andNot64 (show R6.clo L n a < 18446744073709551616 by omega) (show R6.clo L n w < 18446744073709551616 by omega)
  have d3 := bits_andNot64 (show R6.clo L n a < 18446744073709551616 by omega) (show R6.clo (L ++ [(c, d)]) n a < 18446744073709551616 by omega)
  simp only [go_sem, ↓reduceIte, Nat.reduceLT, Nat.reduceLeDiff, Nat.reduceEqDiff, Nat.reduceAdd, Nat.reduceSub, Nat.reduceMul, Nat.reduceBEq, reduceCtorEq, Int.reduceLT, Int.reduceLE, Int.reduceEq, Int.reduceNe, Int.reduceBEq, Int.reduceBNe, Int.reduceAdd, Int.reduceSub, Int.reduceNeg, Int.reduceToNat, beq_self_eq_true, Option.all_some, Option.all_none, Option.some_beq_some, Bool.and_self, List.size_toArray, cond_true, cond_false, beq_true, beq_false, bne_self_eq_false, List.append_eq, A1, M1, F1, A2, M2, F2, e, A3, M3, F3, R1, R2, R3, d1, d2, d3, R6.dif_zero, S1, S2, S3]
  (repeat' (first | assumption | exact lst_sz _ | exact bk_ok _ | exact ex_le_refl rfl | (rw [InK_i64]; omega) | (rw [InK_u8]; omega) | (rw [InK_u64]; omega) | omega | (unfold sz; omega) | (rw [R6.bk_length]; unfold sz; omega) | (rw [R6.bk_length]; omega) | apply And.intro))
noncomputable def tab_SaysMore : Tab := tabOf (fun p : (Nat) × (Nat) × (List Nat) × (Nat) × (Nat) × (Nat) × (Nat) => match p with | (f, s, A, one, two, fr, tt) => [talkP f s A, u8P one, u8P two, u8P fr, u8P tt]) (fun p : (Nat) × (Nat) × (List Nat) × (Nat) × (Nat) × (Nat) × (Nat) => match p with | (f, s, A, one, two, fr, tt) => TalkOK f s A ∧ one < 256 ∧ two < 256 ∧ fr < 256 ∧ tt < 256) (fun p : (Nat) × (Nat) × (List Nat) × (Nat) × (Nat) × (Nat) × (Nat) => match p with | (f, s, A, one, two, fr, tt) => boolP true)
theorem tab_SaysMore_eq (f : Nat) (s : Nat) (A : List Nat) (one : Nat) (two : Nat) (fr : Nat) (tt : Nat) : tab_SaysMore [talkP f s A, u8P one, u8P two, u8P fr, u8P tt] = some (TalkOK f s A ∧ one < 256 ∧ two < 256 ∧ fr < 256 ∧ tt < 256, .p (boolP true)) := tabOf_eq (enc := fun p : (Nat) × (Nat) × (List Nat) × (Nat) × (Nat) × (Nat) × (Nat) => match p with | (f, s, A, one, two, fr, tt) => [talkP f s A, u8P one, u8P two, u8P fr, u8P tt]) (pre := fun p : (Nat) × (Nat) × (List Nat) × (Nat) × (Nat) × (Nat) × (Nat) => match p with | (f, s, A, one, two, fr, tt) => TalkOK f s A ∧ one < 256 ∧ two < 256 ∧ fr < 256 ∧ tt < 256) (out := fun p : (Nat) × (Nat) × (List Nat) × (Nat) × (Nat) × (Nat) × (Nat) => match p with | (f, s, A, one, two, fr, tt) => boolP true) (by rintro ⟨f, s, A, one, two, fr, tt⟩ ⟨f', s', A', one', two', fr', tt'⟩ h; simp at h; first | (simp [h]; done) | omega | (simp [h]; omega)) (f, s, A, one, two, fr, tt)
theorem tab_SaysMore_ok : TabOK Tryd.prog 7 tab_SaysMore := tabOf_ok (by rintro ⟨f, s, A, one, two, fr, tt⟩ h; exact SaysMore_spec f s A one two fr tt h)
noncomputable abbrev ent_SaysMore : FuncId × List Nat × Tab := (7, [], tab_SaysMore)
attribute [go_sem] tab_SaysMore_eq
end Go.V
