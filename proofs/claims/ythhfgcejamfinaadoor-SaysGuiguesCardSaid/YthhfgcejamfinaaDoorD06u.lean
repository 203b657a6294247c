/-
  Contract of the law SaysGuigues. Conditions: none.
-/
import Derived.Test.YthhfgcejamfinaaDoorC06d
import Derived.Test.YthhfgcejamfinaaDoorP6J
set_option linter.unusedVariables false
set_option linter.unusedSimpArgs false
set_option linter.deprecated false
namespace Go.V
open Go.Proofs
set_option maxRecDepth 100000
set_option maxHeartbeats 4000000

theorem indexU_spec (l : List Nat) (v : Nat) (hpre : sz l.length) : Ret Tryd.prog 43 [unsP l, u64P v] (intP (idxBy (v == ·) l)) := by
  refine fn_of (T := []) (N := 19) (RO := []) (CH := []) (KS := [0, 1, 4, 5, 7, 8, 9, 16]) (NS := []) (fun args w => Tryd.call43 args w) Tryd.func43 rfl rfl (by simp) mixed (by kernel_rfl) trivial ?_
  simp only [go_sem, ↓reduceIte, Nat.reduceLT, Nat.reduceLeDiff, Nat.reduceEqDiff, Nat.reduceAdd, Nat.reduceSub, Nat.reduceMul, Nat.reduceBEq, reduceCtorEq, Int.reduceLT, Int.reduceLE, Int.reduceEq, Int.reduceNe, Int.reduceBEq, Int.reduceBNe, Int.reduceAdd, Int.reduceSub, Int.reduceNeg, Int.reduceToNat, beq_self_eq_true, Option.all_some, Option.all_none, Option.some_beq_some, Bool.and_self, List.size_toArray, cond_true, cond_false, beq_true, beq_false, bne_self_eq_false, List.append_eq]
  refine vfor [0,1,7,8] [] [] l.length (fun k => ∀ j x, j < k → l[j]? = some x → (v == x) = false) (fun k => ⟨[(0,.p (unsP l)),(1,.p (u64P v)),(7,.p (natP l.length)),(8,.p (natP k))], []⟩) rfl (by simp) ?_
  intro k hk hI
  by_cases hlt : k < l.length
  · obtain ⟨x, hx⟩ := get_some hlt
    by_cases hv : (v == x) = true
    · simp only [go_sem, ↓reduceIte, Nat.reduceLT, Nat.reduceLeDiff, Nat.reduceEqDiff, Nat.reduceAdd, Nat.reduceSub, Nat.reduceMul, Nat.reduceBEq, reduceCtorEq, Int.reduceLT, Int.reduceLE, Int.reduceEq, Int.reduceNe, Int.reduceBEq, Int.reduceBNe, Int.reduceAdd, Int.reduceSub, Int.reduceNeg, Int.reduceToNat, beq_self_eq_true, Option.all_some, Option.all_none, Option.some_beq_some, Bool.and_self, List.size_toArray, cond_true, cond_false, beq_true, beq_false, bne_self_eq_false, List.append_eq, hlt, lof_getD hx, cast_beq, hv]
      exact ex_le_refl (by rw [idxBy_hit hI hx hv])
    · rw [Bool.not_eq_true] at hv
      simp only [go_sem, ↓reduceIte, Nat.reduceLT, Nat.reduceLeDiff, Nat.reduceEqDiff, Nat.reduceAdd, Nat.reduceSub, Nat.reduceMul, Nat.reduceBEq, reduceCtorEq, Int.reduceLT, Int.reduceLE, Int.reduceEq, Int.reduceNe, Int.reduceBEq, Int.reduceBNe, Int.reduceAdd, Int.reduceSub, Int.reduceNeg, Int.reduceToNat, beq_self_eq_true, Option.all_some, Option.all_none, Option.some_beq_some, Bool.and_self, List.size_toArray, cond_true, cond_false, beq_true, beq_false, bne_self_eq_false, List.append_eq, hlt, lof_getD hx, cast_beq, hv]
      refine ⟨by rw [InK_i64]; unfold sz at hpre; omega, fun j y hj hy => ?_, rfl⟩
      by_cases e : j = k
      · subst e; rw [hx] at hy; cases hy; exact hv
      · exact hI j y (by omega) hy
  · simp only [go_sem, ↓reduceIte, Nat.reduceLT, Nat.reduceLeDiff, Nat.reduceEqDiff, Nat.reduceAdd, Nat.reduceSub, Nat.reduceMul, Nat.reduceBEq, reduceCtorEq, Int.reduceLT, Int.reduceLE, Int.reduceEq, Int.reduceNe, Int.reduceBEq, Int.reduceBNe, Int.reduceAdd, Int.reduceSub, Int.reduceNeg, Int.reduceToNat, beq_self_eq_true, Option.all_some, Option.all_none, Option.some_beq_some, Bool.and_self, List.size_toArray, cond_true, cond_false, beq_true, beq_false, bne_self_eq_false, List.append_eq, hlt]
    exact ex_le_refl (by rw [idxBy_none (fun j x hx => hI j x (by have := (List.getElem?_eq_some_iff.1 hx).1; omega) hx)])
noncomputable def tab_indexU : Tab := tabOf (fun p : (List Nat) × (Nat) => match p with | (l, v) => [unsP l, u64P v]) (fun p : (List Nat) × (Nat) => match p with | (l, v) => sz l.length) (fun p : (List Nat) × (Nat) => match p with | (l, v) => intP (idxBy (v == ·) l))
theorem tab_indexU_eq (l : List Nat) (v : Nat) : tab_indexU [unsP l, u64P v] = some (sz l.length, .p (intP (idxBy (v == ·) l))) := tabOf_eq (enc := fun p : (List Nat) × (Nat) => match p with | (l, v) => [unsP l, u64P v]) (pre := fun p : (List Nat) × (Nat) => match p with | (l, v) => sz l.length) (out := fun p : (List Nat) × (Nat) => match p with | (l, v) => intP (idxBy (v == ·) l)) (by rintro ⟨l, v⟩ ⟨l', v'⟩ h; simp at h; first | (simp [h]; done) | omega | (simp [h]; omega)) (l, v)
theorem tab_indexU_ok : TabOK Tryd.prog 43 tab_indexU := tabOf_ok (by rintro ⟨l, v⟩ h; exact indexU_spec l v h)
noncomputable abbrev ent_indexU : FuncId × List Nat × Tab := (43, [1], tab_indexU)
attribute [go_sem] tab_indexU_eq

theorem containsU_spec (l : List Nat) (v : Nat) (hpre : sz l.length) : Ret Tryd.prog 14 [unsP l, u64P v] (boolP (l.any (v == ·))) := by
  refine fn_of (T := [ent_indexU]) (N := 9) (RO := []) (CH := []) (KS := [0, 1, 4]) (NS := []) (fun args w => Tryd.call14 args w) Tryd.func14 rfl rfl (by simp) mixed (by kernel_rfl) ⟨tab_indexU_ok, trivial⟩ ?_
  simp only [go_sem, ↓reduceIte, Nat.reduceLT, Nat.reduceLeDiff, Nat.reduceEqDiff, Nat.reduceAdd, Nat.reduceSub, Nat.reduceMul, Nat.reduceBEq, reduceCtorEq, Int.reduceLT, Int.reduceLE, Int.reduceEq, Int.reduceNe, Int.reduceBEq, Int.reduceBNe, Int.reduceAdd, Int.reduceSub, Int.reduceNeg, Int.reduceToNat, beq_self_eq_true, Option.all_some, Option.all_none, Option.some_beq_some, Bool.and_self, List.size_toArray, cond_true, cond_false, beq_true, beq_false, bne_self_eq_false, List.append_eq]
  exact ⟨hpre, ex_le_refl (by rw [idxBy_pos])⟩
noncomputable def tab_containsU : Tab := tabOf (fun p : (List Nat) × (Nat) => match p with | (l, v) => [unsP l, u64P v]) (fun p : (List Nat) × (Nat) => match p with | (l, v) => sz l.length) (fun p : (List Nat) × (Nat) => match p with | (l, v) => boolP (l.any (v == ·)))
theorem tab_containsU_eq (l : List Nat) (v : Nat) : tab_containsU [unsP l, u64P v] = some (sz l.length, .p (boolP (l.any (v == ·)))) := tabOf_eq (enc := fun p : (List Nat) × (Nat) => match p with | (l, v) => [unsP l, u64P v]) (pre := fun p : (List Nat) × (Nat) => match p with | (l, v) => sz l.length) (out := fun p : (List Nat) × (Nat) => match p with | (l, v) => boolP (l.any (v == ·))) (by rintro ⟨l, v⟩ ⟨l', v'⟩ h; simp at h; first | (simp [h]; done) | omega | (simp [h]; omega)) (l, v)
theorem tab_containsU_ok : TabOK Tryd.prog 14 tab_containsU := tabOf_ok (by rintro ⟨l, v⟩ h; exact containsU_spec l v h)
noncomputable abbrev ent_containsU : FuncId × List Nat × Tab := (14, [1], tab_containsU)
attribute [go_sem] tab_containsU_eq

/-- the sentences that the first k open sets have taken -/
def usK (L : R6.Rs) (n k : Nat) : List Int := ((R6.openL L n).take k).foldl (fun ks p => addK ks (R6.ownL L p)) []
theorem usK_zero (L : R6.Rs) (n : Nat) : usK L n 0 = [] := by simp [usK]
theorem usK_succ {L : R6.Rs} {n k p : Nat} (h : (R6.openL L n)[k]? = some p) : usK L n (k + 1) = addK (usK L n k) (R6.ownL L p) := by
  unfold usK; rw [R6.take_succ_of h, List.foldl_append]; rfl
theorem usK_mem {L : R6.Rs} {n : Nat} {i : Int} : ∀ {k : Nat}, k ≤ (R6.openL L n).length → i ∈ usK L n k → ∃ p ∈ (R6.openL L n).take k, i = R6.ownL L p
  | 0, _, h => by simp [usK_zero] at h
  | k + 1, hk, h => by
    have hg : (R6.openL L n)[k]? = some ((R6.openL L n)[k]'(by omega)) := List.getElem?_eq_getElem (by omega)
    rw [usK_succ hg, mem_addK] at h
    rcases h with h | h
    · obtain ⟨p, hp, e⟩ := usK_mem (by omega) h
      exact ⟨p, List.take_subset_take_left _ (by omega) hp, e⟩
    · exact ⟨_, by rw [R6.take_succ_of hg]; exact List.mem_append_right _ (List.mem_singleton.2 rfl), h⟩
theorem usK_new {L : R6.Rs} {n k p i : Nat} (hok : R6.Ok L n) (hp : (R6.openL L n)[k]? = some p) (hi : i < L.length) (hb : R6.broken L p i = true) : ¬ (i : Int) ∈ usK L n k := by
  intro h
  obtain ⟨hk, he⟩ := List.getElem?_eq_some_iff.1 hp
  obtain ⟨q, hq, e⟩ := usK_mem (by omega) h
  have hqm := List.mem_of_mem_take hq
  obtain ⟨j, hj, e2, hb2⟩ := R6.ownL_has hqm
  obtain rfl : i = j := by omega
  have := R6.broken_one hok (List.mem_of_getElem? hp) hqm hi hb hb2
  subst this
  obtain ⟨m, hm, em⟩ := List.getElem_of_mem hq
  rw [List.length_take] at hm
  rw [List.getElem_take] at em
  have := (List.getElem_inj R6.openL_nodup).1 (em.trans he.symm)
  omega

theorem SaysGuigues_spec (f : Nat) (s : Nat) (A : List Nat) (hpre : TalkOK f s A) : Ret Tryd.prog 3 [talkP f s A] (boolP true) := by
  refine fn_of (T := [ent_made, ent_opensL, ent_Base6s, ent_readLL, ent_containsU, ent_followsL, ent_cmpLL, ent_closedL, ent_Same6s, ent_Needless6s, ent_works]) (N := 210) (RO := [1, 3, 10, 21, 22, 123]) (CH := []) (KS := [0, 1, 2, 3, 4, 5, 6, 7, 8, 9, 10, 11, 12, 13, 14, 15, 16, 18, 19, 20, 21, 22, 23, 24, 25, 26, 56, 57, 58, 59, 60, 118, 128, 129, 130, 138, 141, 142, 143, 144, 147, 148, 149, 150, 165, 168, 172, 178, 208]) (NS := [8, 16, 124, 140]) (fun args w => Tryd.call3 args w) Tryd.func3 rfl rfl (by simp) mixed (by kernel_rfl) ⟨tab_made_ok, tab_opensL_ok, tab_Base6s_ok, tab_readLL_ok, tab_containsU_ok, tab_followsL_ok, tab_cmpLL_ok, tab_closedL_ok, tab_Same6s_ok, tab_Needless6s_ok, tab_works_ok, trivial⟩ ?_
  simp only [go_sem, ↓reduceIte, Nat.reduceLT, Nat.reduceLeDiff, Nat.reduceEqDiff, Nat.reduceAdd, Nat.reduceSub, Nat.reduceMul, Nat.reduceBEq, reduceCtorEq, Int.reduceLT, Int.reduceLE, Int.reduceEq, Int.reduceNe, Int.reduceBEq, Int.reduceBNe, Int.reduceAdd, Int.reduceSub, Int.reduceNeg, Int.reduceToNat, beq_self_eq_true, Option.all_some, Option.all_none, Option.some_beq_some, Bool.and_self, List.size_toArray, cond_true, cond_false, beq_true, beq_false, bne_self_eq_false, List.append_eq]
  have ht := hpre
  have hlen := ht.2.2.1
  obtain ⟨n, hn⟩ : ∃ n, 1 + f % 5 = n := ⟨_, rfl⟩
  have h1 : 1 ≤ n := by omega
  have h6 : n ≤ 6 := by omega
  obtain ⟨L, hL⟩ : ∃ L, R6.madeL (2 ^ n - 1) A (s % 9) = L := ⟨_, rfl⟩
  have hok : R6.Ok L n := hL ▸ R6.madeL_ok
  have hl : L.length ≤ 8 := by rw [← hL, R6.madeL_length]; omega
  have h64 := R6.pow64 (show n ≤ 6 by omega)
  have hp := Nat.two_pow_pos n
  have hrs : RsOK L := ⟨by omega, fun r hr => by have := hok r hr; omega⟩
  have k1 := bk_ok L
  have C0 := R6.check_bk h1 h6 hl hok
  have B0 := R6.base_bk h1 h6 hl hok
  have bl := R6.baL_length (L := L) (n := n)
  have ol := R6.openL_le hok
  have hle : (R6.baL L n).length ≤ L.length := by omega
  simp only [go_sem, ↓reduceIte, Nat.reduceLT, Nat.reduceLeDiff, Nat.reduceEqDiff, Nat.reduceAdd, Nat.reduceSub, Nat.reduceMul, Nat.reduceBEq, reduceCtorEq, Int.reduceLT, Int.reduceLE, Int.reduceEq, Int.reduceNe, Int.reduceBEq, Int.reduceBNe, Int.reduceAdd, Int.reduceSub, Int.reduceNeg, Int.reduceToNat, beq_self_eq_true, Option.all_some, Option.all_none, Option.some_beq_some, Bool.and_self, List.size_toArray, cond_true, cond_false, beq_true, beq_false, bne_self_eq_false, List.append_eq, u8s_one, u8s_norm, u8s_take hlen, lof_length, hn, hL, C0, B0, R6.bk_length, bl, Nat.not_lt.2 ol]
  obtain ⟨m, hm⟩ : ∃ m, (R6.openL L n).length = m := ⟨_, rfl⟩
  rw [hm] at bl ol
  refine ⟨by omega, ht, ⟨hrs, h6⟩, k1, ?_⟩
  rw [hm]
  refine vfor [3,4,5,6,8,57,58,59] [8] [.nilS 8 45 2] m (fun k => True) (fun k => ⟨[(3,.p (.ref [natP n, sents (R6.bk L)] 0)),(4,.p (prsP L)),(5,.p (unsP (R6.openL L n))),(6,.p (sents (R6.bk (R6.baL L n)))),(8,.sl 8),(57,.p (sents (R6.bk (R6.baL L n)))),(58,.p (natP m)),(59,.p (natP k))], [(8,.vec 45 2 (lof prP ((R6.baL L n).take k)))]⟩) (by first | rfl | (simp only [go_sem, ↓reduceIte, Nat.reduceLT, Nat.reduceLeDiff, Nat.reduceEqDiff, Nat.reduceAdd, Nat.reduceSub, Nat.reduceMul, Nat.reduceBEq, reduceCtorEq, Int.reduceLT, Int.reduceLE, Int.reduceEq, Int.reduceNe, Int.reduceBEq, Int.reduceBNe, Int.reduceAdd, Int.reduceSub, Int.reduceNeg, Int.reduceToNat, beq_self_eq_true, Option.all_some, Option.all_none, Option.some_beq_some, Bool.and_self, List.size_toArray, cond_true, cond_false, beq_true, beq_false, bne_self_eq_false, List.append_eq]; first | done | rfl)) trivial ?_
  · intro k hk _
    by_cases hlt : k < m
    · obtain ⟨r, hr⟩ := get_some (show k < (R6.baL L n).length by omega)
      have hbr : (R6.bk (R6.baL L n))[k]? = some (R6.lst r.1, R6.lst r.2) := by simp [R6.bk, hr]
      obtain ⟨_, g2, g3⟩ := R6.baL_get hr
      have l1 := R6.openL_lt g3
      have l2 := (R6.baL_ok r (List.mem_of_getElem? hr)).2
      have R1 := R6.readL_lst h6 l1
      have R2 := R6.readL_lst h6 l2
      have hcn : (R6.openL L n).any (r.1 == ·) = true := by rw [List.any_eq_true]; exact ⟨r.1, g3, by simp⟩
      have c1 := R6.clo_lt L n r.1
      have b1 := bits_andNot64 (show R6.clo L n r.1 < 18446744073709551616 by omega) (show r.1 < 18446744073709551616 by omega)
      rw [← g2] at b1
      have hts := R6.take_succ_of hr
      have htl : ((R6.baL L n).take k).length ≤ k := List.length_take_le _ _
      have z1 := lst_sz r.1
      have z2 := lst_sz r.2
      by_cases hk0 : (0 : Int) < (k : Int)
      · obtain ⟨q, hq⟩ := get_some (show k - 1 < (R6.baL L n).length by omega)
        have hbq : (R6.bk (R6.baL L n))[k - 1]? = some (R6.lst q.1, R6.lst q.2) := by simp [R6.bk, hq]
        have hso := R6.baL_sorted h6 hq (show (R6.baL L n)[k - 1 + 1]? = some r by rw [show k - 1 + 1 = k by omega]; exact hr)
        have ek : (k : Int) - 1 = ((k - 1 : Nat) : Int) := by omega
        simp only [go_sem, ↓reduceIte, Nat.reduceLT, Nat.reduceLeDiff, Nat.reduceEqDiff, Nat.reduceAdd, Nat.reduceSub, Nat.reduceMul, Nat.reduceBEq, reduceCtorEq, Int.reduceLT, Int.reduceLE, Int.reduceEq, Int.reduceNe, Int.reduceBEq, Int.reduceBNe, Int.reduceAdd, Int.reduceSub, Int.reduceNeg, Int.reduceToNat, beq_self_eq_true, Option.all_some, Option.all_none, Option.some_beq_some, Bool.and_self, List.size_toArray, cond_true, cond_false, beq_true, beq_false, bne_self_eq_false, List.append_eq, hlt, hk0, lof_getD hbr, lof_getD hbq, R1, R2, hcn, b1, ek, show ¬ 0 ≤ cmpL (R6.lst q.1) (R6.lst r.1) by omega]
        rw [hts, ← lof_append (f := prP)]
        (repeat' (first | assumption | exact lst_sz _ | exact bk_ok _ | exact ex_le_refl rfl | (rw [InK_i64]; omega) | (rw [InK_u8]; omega) | (rw [InK_u64]; omega) | omega | (unfold sz; omega) | (rw [R6.bk_length]; unfold sz; omega) | (rw [R6.bk_length]; omega) | rfl | apply And.intro))
      · simp only [go_sem, ↓reduceIte, Nat.reduceLT, Nat.reduceLeDiff, Nat.reduceEqDiff, Nat.reduceAdd, Nat.reduceSub, Nat.reduceMul, Nat.reduceBEq, reduceCtorEq, Int.reduceLT, Int.reduceLE, Int.reduceEq, Int.reduceNe, Int.reduceBEq, Int.reduceBNe, Int.reduceAdd, Int.reduceSub, Int.reduceNeg, Int.reduceToNat, beq_self_eq_true, Option.all_some, Option.all_none, Option.some_beq_some, Bool.and_self, List.size_toArray, cond_true, cond_false, beq_true, beq_false, bne_self_eq_false, List.append_eq, hlt, hk0, lof_getD hbr, R1, R2, hcn, b1]
        rw [hts, ← lof_append (f := prP)]
        (repeat' (first | assumption | exact lst_sz _ | exact bk_ok _ | exact ex_le_refl rfl | (rw [InK_i64]; omega) | (rw [InK_u8]; omega) | (rw [InK_u64]; omega) | omega | (unfold sz; omega) | (rw [R6.bk_length]; unfold sz; omega) | (rw [R6.bk_length]; omega) | rfl | apply And.intro))
    · obtain rfl : k = m := by omega
      simp only [go_sem, ↓reduceIte, Nat.reduceLT, Nat.reduceLeDiff, Nat.reduceEqDiff, Nat.reduceAdd, Nat.reduceSub, Nat.reduceMul, Nat.reduceBEq, reduceCtorEq, Int.reduceLT, Int.reduceLE, Int.reduceEq, Int.reduceNe, Int.reduceBEq, Int.reduceBNe, Int.reduceAdd, Int.reduceSub, Int.reduceNeg, Int.reduceToNat, beq_self_eq_true, Option.all_some, Option.all_none, Option.some_beq_some, Bool.and_self, List.size_toArray, cond_true, cond_false, beq_true, beq_false, bne_self_eq_false, List.append_eq, hlt, shl_one]
      rw [List.take_of_length_le (show (R6.baL L n).length ≤ k by omega)]
      refine ⟨⟨by omega, by rw [InK_u64]; omega⟩, ?_⟩
      have hbs : RsOK (R6.baL L n) := ⟨Nat.le_trans hle (by omega), fun r hr => ⟨Nat.lt_of_lt_of_le (R6.baL_ok r hr).1 h64, Nat.lt_of_lt_of_le (R6.baL_ok r hr).2 h64⟩⟩
      refine vfor [3,4,5,6,8,128,129] [] [.seal 8] (2 ^ n) (fun j => True) (fun j => ⟨[(3,.p (.ref [natP n, sents (R6.bk L)] 0)),(4,.p (prsP L)),(5,.p (unsP (R6.openL L n))),(6,.p (sents (R6.bk (R6.baL L n)))),(8,.p (prsP (R6.baL L n))),(128,.p (u64P (2 ^ n))),(129,.p (u64P j))], []⟩) (by first | rfl | (simp only [go_sem, ↓reduceIte, Nat.reduceLT, Nat.reduceLeDiff, Nat.reduceEqDiff, Nat.reduceAdd, Nat.reduceSub, Nat.reduceMul, Nat.reduceBEq, reduceCtorEq, Int.reduceLT, Int.reduceLE, Int.reduceEq, Int.reduceNe, Int.reduceBEq, Int.reduceBNe, Int.reduceAdd, Int.reduceSub, Int.reduceNeg, Int.reduceToNat, beq_self_eq_true, Option.all_some, Option.all_none, Option.some_beq_some, Bool.and_self, List.size_toArray, cond_true, cond_false, beq_true, beq_false, bne_self_eq_false, List.append_eq]; first | done | rfl)) trivial ?_
      intro j hj _
      by_cases hjl : j < 2 ^ n
      · have hcb := R6.closed_baL hok hjl
        simp only [go_sem, ↓reduceIte, Nat.reduceLT, Nat.reduceLeDiff, Nat.reduceEqDiff, Nat.reduceAdd, Nat.reduceSub, Nat.reduceMul, Nat.reduceBEq, reduceCtorEq, Int.reduceLT, Int.reduceLE, Int.reduceEq, Int.reduceNe, Int.reduceBEq, Int.reduceBNe, Int.reduceAdd, Int.reduceSub, Int.reduceNeg, Int.reduceToNat, beq_self_eq_true, Option.all_some, Option.all_none, Option.some_beq_some, Bool.and_self, List.size_toArray, cond_true, cond_false, beq_true, beq_false, bne_self_eq_false, List.append_eq, hjl, hcb, beq_self_eq_true]
        (repeat' (first | assumption | exact lst_sz _ | exact bk_ok _ | exact ex_le_refl rfl | (rw [InK_i64]; omega) | (rw [InK_u8]; omega) | (rw [InK_u64]; omega) | omega | (unfold sz; omega) | (rw [R6.bk_length]; unfold sz; omega) | (rw [R6.bk_length]; omega) | rfl | apply And.intro))
      · simp only [go_sem, ↓reduceIte, Nat.reduceLT, Nat.reduceLeDiff, Nat.reduceEqDiff, Nat.reduceAdd, Nat.reduceSub, Nat.reduceMul, Nat.reduceBEq, reduceCtorEq, Int.reduceLT, Int.reduceLE, Int.reduceEq, Int.reduceNe, Int.reduceBEq, Int.reduceBNe, Int.reduceAdd, Int.reduceSub, Int.reduceNeg, Int.reduceToNat, beq_self_eq_true, Option.all_some, Option.all_none, Option.some_beq_some, Bool.and_self, List.size_toArray, cond_true, cond_false, beq_true, beq_false, bne_self_eq_false, List.append_eq, hjl]
        refine vfor [3,4,6,16,141,142,143] [140] [] k (fun j => True) (fun j => ⟨[(3,.p (.ref [natP n, sents (R6.bk L)] 0)),(4,.p (prsP L)),(6,.p (sents (R6.bk (R6.baL L n)))),(16,.mp 140),(141,.p (unsP (R6.openL L n))),(142,.p (natP k)),(143,.p (natP j))], [(140,.map .i64 (encK (usK L n j)))]⟩) (by first | rfl | (simp only [go_sem, ↓reduceIte, Nat.reduceLT, Nat.reduceLeDiff, Nat.reduceEqDiff, Nat.reduceAdd, Nat.reduceSub, Nat.reduceMul, Nat.reduceBEq, reduceCtorEq, Int.reduceLT, Int.reduceLE, Int.reduceEq, Int.reduceNe, Int.reduceBEq, Int.reduceBNe, Int.reduceAdd, Int.reduceSub, Int.reduceNeg, Int.reduceToNat, beq_self_eq_true, Option.all_some, Option.all_none, Option.some_beq_some, Bool.and_self, List.size_toArray, cond_true, cond_false, beq_true, beq_false, bne_self_eq_false, List.append_eq, usK_zero, hm]; first | done | rfl)) trivial ?_
        intro j hj _
        by_cases hjk : j < k
        · obtain ⟨p, hp2⟩ := get_some (show j < (R6.openL L n).length by omega)
          have hpm := List.mem_of_getElem? hp2
          have hpl := R6.openL_lt hpm
          obtain ⟨i0, hi0, e0, _⟩ := R6.ownL_has hpm
          have hus := usK_succ hp2
          simp only [go_sem, ↓reduceIte, Nat.reduceLT, Nat.reduceLeDiff, Nat.reduceEqDiff, Nat.reduceAdd, Nat.reduceSub, Nat.reduceMul, Nat.reduceBEq, reduceCtorEq, Int.reduceLT, Int.reduceLE, Int.reduceEq, Int.reduceNe, Int.reduceBEq, Int.reduceBNe, Int.reduceAdd, Int.reduceSub, Int.reduceNeg, Int.reduceToNat, beq_self_eq_true, Option.all_some, Option.all_none, Option.some_beq_some, Bool.and_self, List.size_toArray, cond_true, cond_false, beq_true, beq_false, bne_self_eq_false, List.append_eq, hjk, lof_getD hp2]
          refine ⟨by omega, ?_⟩
          refine vfor [3,4,6,16,18,19,141,142,143,147,148,149] [140] [] L.length (fun i => True) (fun i => ⟨[(3,.p (.ref [natP n, sents (R6.bk L)] 0)),(4,.p (prsP L)),(6,.p (sents (R6.bk (R6.baL L n)))),(16,.mp 140),(18,.p (u64P p)),(19,.p (intP (R6.ownU L p i))),(141,.p (unsP (R6.openL L n))),(142,.p (natP k)),(143,.p (natP j)),(147,.p (prsP L)),(148,.p (natP L.length)),(149,.p (natP i))], [(140,.map .i64 (encK (usK L n j)))]⟩) (by first | rfl | (simp only [go_sem, ↓reduceIte, Nat.reduceLT, Nat.reduceLeDiff, Nat.reduceEqDiff, Nat.reduceAdd, Nat.reduceSub, Nat.reduceMul, Nat.reduceBEq, reduceCtorEq, Int.reduceLT, Int.reduceLE, Int.reduceEq, Int.reduceNe, Int.reduceBEq, Int.reduceBNe, Int.reduceAdd, Int.reduceSub, Int.reduceNeg, Int.reduceToNat, beq_self_eq_true, Option.all_some, Option.all_none, Option.some_beq_some, Bool.and_self, List.size_toArray, cond_true, cond_false, beq_true, beq_false, bne_self_eq_false, List.append_eq]; first | done | rfl)) trivial ?_
          intro i hi _
          by_cases hil : i < L.length
          · obtain ⟨x, hx⟩ := get_some hil
            have hxo := hok x (List.mem_of_getElem? hx)
            have b1 := bits_andNot64 (show x.1 < 18446744073709551616 by omega) (show p < 18446744073709551616 by omega)
            have b2 := bits_andNot64 (show x.2 < 18446744073709551616 by omega) (show p < 18446744073709551616 by omega)
            have hbk := R6.broken_at (s := p) hx
            have how : R6.ownU L p (i + 1) = if R6.broken L p i = true then (i : Int) else R6.ownU L p i := rfl
            by_cases hb : R6.broken L p i = true
            · have hnew := usK_new hok hp2 hil hb
              rw [if_pos hb] at how
              rw [hbk, Bool.and_eq_true, Bool.not_eq_true'] at hb
              simp only [go_sem, ↓reduceIte, Nat.reduceLT, Nat.reduceLeDiff, Nat.reduceEqDiff, Nat.reduceAdd, Nat.reduceSub, Nat.reduceMul, Nat.reduceBEq, reduceCtorEq, Int.reduceLT, Int.reduceLE, Int.reduceEq, Int.reduceNe, Int.reduceBEq, Int.reduceBNe, Int.reduceAdd, Int.reduceSub, Int.reduceNeg, Int.reduceToNat, beq_self_eq_true, Option.all_some, Option.all_none, Option.some_beq_some, Bool.and_self, List.size_toArray, cond_true, cond_false, beq_true, beq_false, bne_self_eq_false, List.append_eq, hil, lof_getD hx, b1, b2, R6.dif_zero, R6.dif_nzero, hb.1, hb.2, hnew]
              rw [how]
              (repeat' (first | assumption | exact lst_sz _ | exact bk_ok _ | exact ex_le_refl rfl | (rw [InK_i64]; omega) | (rw [InK_u8]; omega) | (rw [InK_u64]; omega) | omega | (unfold sz; omega) | (rw [R6.bk_length]; unfold sz; omega) | (rw [R6.bk_length]; omega) | rfl | apply And.intro))
            · rw [if_neg hb] at how
              rw [Bool.not_eq_true] at hb
              rw [hbk] at hb
              by_cases hs1 : R6.sub x.1 p = true
              · have hs2 : R6.sub x.2 p = true := by simpa [hs1] using hb
                simp only [go_sem, ↓reduceIte, Nat.reduceLT, Nat.reduceLeDiff, Nat.reduceEqDiff, Nat.reduceAdd, Nat.reduceSub, Nat.reduceMul, Nat.reduceBEq, reduceCtorEq, Int.reduceLT, Int.reduceLE, Int.reduceEq, Int.reduceNe, Int.reduceBEq, Int.reduceBNe, Int.reduceAdd, Int.reduceSub, Int.reduceNeg, Int.reduceToNat, beq_self_eq_true, Option.all_some, Option.all_none, Option.some_beq_some, Bool.and_self, List.size_toArray, cond_true, cond_false, beq_true, beq_false, bne_self_eq_false, List.append_eq, hil, lof_getD hx, b1, b2, R6.dif_zero, R6.dif_nzero, hs1, hs2]
                rw [how]
                (repeat' (first | assumption | exact lst_sz _ | exact bk_ok _ | exact ex_le_refl rfl | (rw [InK_i64]; omega) | (rw [InK_u8]; omega) | (rw [InK_u64]; omega) | omega | (unfold sz; omega) | (rw [R6.bk_length]; unfold sz; omega) | (rw [R6.bk_length]; omega) | rfl | apply And.intro))
              · rw [Bool.not_eq_true] at hs1
                simp only [go_sem, ↓reduceIte, Nat.reduceLT, Nat.reduceLeDiff, Nat.reduceEqDiff, Nat.reduceAdd, Nat.reduceSub, Nat.reduceMul, Nat.reduceBEq, reduceCtorEq, Int.reduceLT, Int.reduceLE, Int.reduceEq, Int.reduceNe, Int.reduceBEq, Int.reduceBNe, Int.reduceAdd, Int.reduceSub, Int.reduceNeg, Int.reduceToNat, beq_self_eq_true, Option.all_some, Option.all_none, Option.some_beq_some, Bool.and_self, List.size_toArray, cond_true, cond_false, beq_true, beq_false, bne_self_eq_false, List.append_eq, hil, lof_getD hx, b1, b2, R6.dif_zero, R6.dif_nzero, hs1]
                rw [how]
                (repeat' (first | assumption | exact lst_sz _ | exact bk_ok _ | exact ex_le_refl rfl | (rw [InK_i64]; omega) | (rw [InK_u8]; omega) | (rw [InK_u64]; omega) | omega | (unfold sz; omega) | (rw [R6.bk_length]; unfold sz; omega) | (rw [R6.bk_length]; omega) | rfl | apply And.intro))
          · obtain rfl : i = L.length := by omega
            have e1 : R6.ownU L p L.length = R6.ownL L p := rfl
            simp only [go_sem, ↓reduceIte, Nat.reduceLT, Nat.reduceLeDiff, Nat.reduceEqDiff, Nat.reduceAdd, Nat.reduceSub, Nat.reduceMul, Nat.reduceBEq, reduceCtorEq, Int.reduceLT, Int.reduceLE, Int.reduceEq, Int.reduceNe, Int.reduceBEq, Int.reduceBNe, Int.reduceAdd, Int.reduceSub, Int.reduceNeg, Int.reduceToNat, beq_self_eq_true, Option.all_some, Option.all_none, Option.some_beq_some, Bool.and_self, List.size_toArray, cond_true, cond_false, beq_true, beq_false, bne_self_eq_false, List.append_eq, hil, e1, e0, show ¬ (i0 : Int) < 0 by omega]
            rw [hus, e0]
            (repeat' (first | assumption | exact lst_sz _ | exact bk_ok _ | exact ex_le_refl rfl | (rw [InK_i64]; omega) | (rw [InK_u8]; omega) | (rw [InK_u64]; omega) | omega | (unfold sz; omega) | (rw [R6.bk_length]; unfold sz; omega) | (rw [R6.bk_length]; omega) | rfl | apply And.intro))
        · obtain rfl : j = k := by omega
          have hm8 : (j : Int) ≤ 8 := by omega
          have e1 := R6.sameErr_base h1 h6 hl hok
          have e2 := R6.same_base h1 h6 hl hok
          have e3 := R6.need_base h1 h6 hl hok
          have e4 := R6.check_bk h1 h6 (R6.baL_le h1 h6 hl hok) (R6.baL_ok (L := L))
          have k2 := bk_ok (R6.baL L n)
          simp only [go_sem, ↓reduceIte, Nat.reduceLT, Nat.reduceLeDiff, Nat.reduceEqDiff, Nat.reduceAdd, Nat.reduceSub, Nat.reduceMul, Nat.reduceBEq, reduceCtorEq, Int.reduceLT, Int.reduceLE, Int.reduceEq, Int.reduceNe, Int.reduceBEq, Int.reduceBNe, Int.reduceAdd, Int.reduceSub, Int.reduceNeg, Int.reduceToNat, beq_self_eq_true, Option.all_some, Option.all_none, Option.some_beq_some, Bool.and_self, List.size_toArray, cond_true, cond_false, beq_true, beq_false, bne_self_eq_false, List.append_eq, hjk, hm8, R6.bk_length, bl, e1, e2, e3, e4]
          (repeat' (first | assumption | exact lst_sz _ | exact bk_ok _ | exact ex_le_refl rfl | (rw [InK_i64]; omega) | (rw [InK_u8]; omega) | (rw [InK_u64]; omega) | omega | (unfold sz; omega) | (rw [R6.bk_length]; unfold sz; omega) | (rw [R6.bk_length]; omega) | rfl | apply And.intro))
noncomputable def tab_SaysGuigues : Tab := tabOf (fun p : (Nat) × (Nat) × (List Nat) => match p with | (f, s, A) => [talkP f s A]) (fun p : (Nat) × (Nat) × (List Nat) => match p with | (f, s, A) => TalkOK f s A) (fun p : (Nat) × (Nat) × (List Nat) => match p with | (f, s, A) => boolP true)
theorem tab_SaysGuigues_eq (f : Nat) (s : Nat) (A : List Nat) : tab_SaysGuigues [talkP f s A] = some (TalkOK f s A, .p (boolP true)) := tabOf_eq (enc := fun p : (Nat) × (Nat) × (List Nat) => match p with | (f, s, A) => [talkP f s A]) (pre := fun p : (Nat) × (Nat) × (List Nat) => match p with | (f, s, A) => TalkOK f s A) (out := fun p : (Nat) × (Nat) × (List Nat) => match p with | (f, s, A) => boolP true) (by rintro ⟨f, s, A⟩ ⟨f', s', A'⟩ h; simp at h; first | (simp [h]; done) | omega | (simp [h]; omega)) (f, s, A)
theorem tab_SaysGuigues_ok : TabOK Tryd.prog 3 tab_SaysGuigues := tabOf_ok (by rintro ⟨f, s, A⟩ h; exact SaysGuigues_spec f s A h)
noncomputable abbrev ent_SaysGuigues : FuncId × List Nat × Tab := (3, [], tab_SaysGuigues)
attribute [go_sem] tab_SaysGuigues_eq
end Go.V
