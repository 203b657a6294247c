/-
  Contracts of the law's own functions (statements without the reference). Conditions: none.
-/
import Derived.Test.YthhfgcejamfinaaDoorC06w
import Derived.Test.YthhfgcejamfinaaDoorP6D
set_option linter.unusedVariables false
set_option linter.unusedSimpArgs false
set_option linter.deprecated false
namespace Go.V
open Go.Proofs
set_option maxRecDepth 10000
set_option maxHeartbeats 4000000

abbrev prP (p : Nat × Nat) : PV := .agg [u64P p.1, u64P p.2]
abbrev prsP (L : R6.Rs) : PV := .list .any 2 (lof prP L)
abbrev unsP (l : List Nat) : PV := .list .any 1 (lof u64P l)
@[simp] theorem lof_prP_inj {l l' : R6.Rs} : lof prP l = lof prP l' ↔ l = l' := lof_inj (by rintro ⟨a, b⟩ ⟨c, d⟩ h; simp at h; simp; omega)
@[simp] theorem lof_u64P_inj {l l' : List Nat} : lof u64P l = lof u64P l' ↔ l = l' := lof_inj (by intro a b h; simp at h; omega)
def RsOK (L : R6.Rs) : Prop := L.length ≤ 64 ∧ ∀ r ∈ L, r.1 < 64 ∧ r.2 < 64
theorem RsOK.at {L : R6.Rs} (h : RsOK L) {k : Nat} {r : Nat × Nat} (hr : L[k]? = some r) : r.1 < 64 ∧ r.2 < 64 := h.2 r (List.mem_of_getElem? hr)

theorem tz_spec (f : Nat) (hpre : f < 256 ∧ f ≠ 0) : Ret Tryd.prog 60 [u64P f] (natP (R6.tz8 f)) := by
  have e : Lib.ctz 64 f = R6.tz8 f := (show ∀ f < 256, f ≠ 0 → Lib.ctz 64 f = R6.tz8 f by decide +kernel) f hpre.1 hpre.2
  rw [← e]
  exact tz_ret Tryd.tz (fun args w => Tryd.call60 args w) (by kernel_rfl) f (by omega)
noncomputable def tab_tz : Tab := tabOf (fun p : (Nat) => match p with | f => [u64P f]) (fun p : (Nat) => match p with | f => f < 256 ∧ f ≠ 0) (fun p : (Nat) => match p with | f => natP (R6.tz8 f))
theorem tab_tz_eq (f : Nat) : tab_tz [u64P f] = some (f < 256 ∧ f ≠ 0, .p (natP (R6.tz8 f))) := tabOf_eq (enc := fun p : (Nat) => match p with | f => [u64P f]) (pre := fun p : (Nat) => match p with | f => f < 256 ∧ f ≠ 0) (out := fun p : (Nat) => match p with | f => natP (R6.tz8 f)) (by rintro f f' h; simp at h; first | (simp [h]; done) | omega | (simp [h]; omega)) (f)
theorem tab_tz_ok : TabOK Tryd.prog 60 tab_tz := tabOf_ok (by rintro f h; exact tz_spec f h)
noncomputable abbrev ent_tz : FuncId × List Nat × Tab := (60, [], tab_tz)
attribute [go_sem] tab_tz_eq

theorem members_spec (s : Nat) (hpre : s < 256) : Ret Tryd.prog 22 [u64P s] (ints (R6.lst s)) := by
  refine fn_of (T := [ent_tz]) (N := 16) (RO := [13]) (CH := []) (KS := [0, 2, 3, 5]) (NS := [2, 3, 14]) (fun args w => Tryd.call22 args w) Tryd.func22 rfl rfl (by simp) mixed (by kernel_rfl) ⟨tab_tz_ok, trivial⟩ ?_
  simp only [go_sem, ↓reduceIte, Nat.reduceLT, Nat.reduceLeDiff, Nat.reduceEqDiff, Nat.reduceAdd, Nat.reduceSub, Nat.reduceMul, Nat.reduceBEq, reduceCtorEq, Int.reduceLT, Int.reduceLE, Int.reduceEq, Int.reduceNe, Int.reduceBEq, Int.reduceBNe, Int.reduceAdd, Int.reduceSub, Int.reduceNeg, Int.reduceToNat, beq_self_eq_true, Option.all_some, Option.all_none, Option.some_beq_some, Bool.and_self, List.size_toArray, cond_true, cond_false, beq_true, beq_false, bne_self_eq_false, List.append_eq]
  refine vwhile [0,3] [3] [.nilS 3 3 1] (fun d : Nat × List Int => d.1 < 256 ∧ d.2.length ≤ 8 ∧ d.2 ++ R6.lst d.1 = R6.lst s) (fun d => d.1) (fun d => ⟨[(0,.p (u64P d.1)),(3,.sl 3)], [(3, .vec 3 1 (lof intP d.2))]⟩) (s, []) (by first | rfl | (simp only [go_sem, ↓reduceIte, Nat.reduceLT, Nat.reduceLeDiff, Nat.reduceEqDiff, Nat.reduceAdd, Nat.reduceSub, Nat.reduceMul, Nat.reduceBEq, reduceCtorEq, Int.reduceLT, Int.reduceLE, Int.reduceEq, Int.reduceNe, Int.reduceBEq, Int.reduceBNe, Int.reduceAdd, Int.reduceSub, Int.reduceNeg, Int.reduceToNat, beq_self_eq_true, Option.all_some, Option.all_none, Option.some_beq_some, Bool.and_self, List.size_toArray, cond_true, cond_false, beq_true, beq_false, bne_self_eq_false, List.append_eq]; first | done | rfl)) ⟨hpre, by simp, rfl⟩ ?_
  rintro ⟨g, o⟩ ⟨hg, ho, hI⟩
  simp only at hg ho hI
  by_cases h0 : g = 0
  · subst h0
    simp only [go_sem, ↓reduceIte, Nat.reduceLT, Nat.reduceLeDiff, Nat.reduceEqDiff, Nat.reduceAdd, Nat.reduceSub, Nat.reduceMul, Nat.reduceBEq, reduceCtorEq, Int.reduceLT, Int.reduceLE, Int.reduceEq, Int.reduceNe, Int.reduceBEq, Int.reduceBNe, Int.reduceAdd, Int.reduceSub, Int.reduceNeg, Int.reduceToNat, beq_self_eq_true, Option.all_some, Option.all_none, Option.some_beq_some, Bool.and_self, List.size_toArray, cond_true, cond_false, beq_true, beq_false, bne_self_eq_false, List.append_eq]
    exact ex_le_refl (by rw [← hI]; simp [R6.lst])
  · have hs := R6.lst_step g hg h0
    have hlen : o.length + 1 ≤ 8 := by
      have h1 := congrArg List.length hI
      have h2 := R6.lst_length s
      rw [hs.1] at h1; simp at h1; omega
    have e : ((g : Int) - 1) = ((g - 1 : Nat) : Int) := by omega
    simp only [go_sem, ↓reduceIte, Nat.reduceLT, Nat.reduceLeDiff, Nat.reduceEqDiff, Nat.reduceAdd, Nat.reduceSub, Nat.reduceMul, Nat.reduceBEq, reduceCtorEq, Int.reduceLT, Int.reduceLE, Int.reduceEq, Int.reduceNe, Int.reduceBEq, Int.reduceBNe, Int.reduceAdd, Int.reduceSub, Int.reduceNeg, Int.reduceToNat, beq_self_eq_true, Option.all_some, Option.all_none, Option.some_beq_some, Bool.and_self, List.size_toArray, cond_true, cond_false, beq_true, beq_false, bne_self_eq_false, List.append_eq, show ((g : Int) != 0) = true by simp [h0], hg, h0, e, bits_and64 (show g < 18446744073709551616 by omega) (show g - 1 < 18446744073709551616 by omega)]
    refine ⟨h0, by omega, by rw [InK_u64]; omega, (g &&& (g - 1), o ++ [(R6.tz8 g : Int)]), hs.2, ⟨by omega, by simp; omega, ?_⟩, rfl⟩
    rw [← hI, hs.1]; simp
noncomputable def tab_members : Tab := tabOf (fun p : (Nat) => match p with | s => [u64P s]) (fun p : (Nat) => match p with | s => s < 256) (fun p : (Nat) => match p with | s => ints (R6.lst s))
theorem tab_members_eq (s : Nat) : tab_members [u64P s] = some (s < 256, .p (ints (R6.lst s))) := tabOf_eq (enc := fun p : (Nat) => match p with | s => [u64P s]) (pre := fun p : (Nat) => match p with | s => s < 256) (out := fun p : (Nat) => match p with | s => ints (R6.lst s)) (by rintro s s' h; simp at h; first | (simp [h]; done) | omega | (simp [h]; omega)) (s)
theorem tab_members_ok : TabOK Tryd.prog 22 tab_members := tabOf_ok (by rintro s h; exact members_spec s h)
noncomputable abbrev ent_members : FuncId × List Nat × Tab := (22, [], tab_members)
attribute [go_sem] tab_members_eq

theorem closedL_spec (L : List (Nat × Nat)) (s : Nat) (hpre : RsOK L ∧ s < 64) : Ret Tryd.prog 17 [prsP L, u64P s] (boolP (R6.closedM L s)) := by
  refine fn_of (T := []) (N := 26) (RO := [6]) (CH := []) (KS := [0, 1, 4, 6, 7, 8, 9, 10, 24]) (NS := []) (fun args w => Tryd.call17 args w) Tryd.func17 rfl rfl (by simp) mixed (by kernel_rfl) trivial ?_
  simp only [go_sem, ↓reduceIte, Nat.reduceLT, Nat.reduceLeDiff, Nat.reduceEqDiff, Nat.reduceAdd, Nat.reduceSub, Nat.reduceMul, Nat.reduceBEq, reduceCtorEq, Int.reduceLT, Int.reduceLE, Int.reduceEq, Int.reduceNe, Int.reduceBEq, Int.reduceBNe, Int.reduceAdd, Int.reduceSub, Int.reduceNeg, Int.reduceToNat, beq_self_eq_true, Option.all_some, Option.all_none, Option.some_beq_some, Bool.and_self, List.size_toArray, cond_true, cond_false, beq_true, beq_false, bne_self_eq_false, List.append_eq]
  refine vfor [1,7,8,9] [] [] L.length (fun k => R6.closedM (L.take k) s = true) (fun k => ⟨[(1,.p (u64P s)),(7,.p (prsP L)),(8,.p (natP L.length)),(9,.p (natP k))], []⟩) (by first | rfl | (simp only [go_sem, ↓reduceIte, Nat.reduceLT, Nat.reduceLeDiff, Nat.reduceEqDiff, Nat.reduceAdd, Nat.reduceSub, Nat.reduceMul, Nat.reduceBEq, reduceCtorEq, Int.reduceLT, Int.reduceLE, Int.reduceEq, Int.reduceNe, Int.reduceBEq, Int.reduceBNe, Int.reduceAdd, Int.reduceSub, Int.reduceNeg, Int.reduceToNat, beq_self_eq_true, Option.all_some, Option.all_none, Option.some_beq_some, Bool.and_self, List.size_toArray, cond_true, cond_false, beq_true, beq_false, bne_self_eq_false, List.append_eq]; first | done | rfl)) (by simp [R6.closedM]) ?_
  intro k hk hI
  by_cases hlt : k < L.length
  · obtain ⟨x, hx⟩ := get_some hlt
    have hok := hpre.1.at hx
    have hn := hpre.1.1
    have hs := hpre.2
    have b1 := bits_andNot64 (show x.1 < 18446744073709551616 by omega) (show s < 18446744073709551616 by omega)
    have b2 := bits_andNot64 (show x.2 < 18446744073709551616 by omega) (show s < 18446744073709551616 by omega)
    by_cases h1 : R6.sub x.1 s = true
    · by_cases h2 : R6.sub x.2 s = true
      · have := R6.closedM_take hI hx (.inr h2)
        simp only [go_sem, ↓reduceIte, Nat.reduceLT, Nat.reduceLeDiff, Nat.reduceEqDiff, Nat.reduceAdd, Nat.reduceSub, Nat.reduceMul, Nat.reduceBEq, reduceCtorEq, Int.reduceLT, Int.reduceLE, Int.reduceEq, Int.reduceNe, Int.reduceBEq, Int.reduceBNe, Int.reduceAdd, Int.reduceSub, Int.reduceNeg, Int.reduceToNat, beq_self_eq_true, Option.all_some, Option.all_none, Option.some_beq_some, Bool.and_self, List.size_toArray, cond_true, cond_false, beq_true, beq_false, bne_self_eq_false, List.append_eq, hlt, lof_getD hx, b1, b2, R6.dif_zero, R6.dif_nzero, h1, h2]
        (repeat' (first | assumption | (rw [InK_i64]; omega) | (rw [InK_u8]; omega) | (rw [InK_u64]; omega) | omega | rfl | apply And.intro))
      · rw [Bool.not_eq_true] at h2
        simp only [go_sem, ↓reduceIte, Nat.reduceLT, Nat.reduceLeDiff, Nat.reduceEqDiff, Nat.reduceAdd, Nat.reduceSub, Nat.reduceMul, Nat.reduceBEq, reduceCtorEq, Int.reduceLT, Int.reduceLE, Int.reduceEq, Int.reduceNe, Int.reduceBEq, Int.reduceBNe, Int.reduceAdd, Int.reduceSub, Int.reduceNeg, Int.reduceToNat, beq_self_eq_true, Option.all_some, Option.all_none, Option.some_beq_some, Bool.and_self, List.size_toArray, cond_true, cond_false, beq_true, beq_false, bne_self_eq_false, List.append_eq, hlt, lof_getD hx, b1, b2, R6.dif_zero, R6.dif_nzero, h1, h2]
        exact ⟨by omega, by omega, ex_le_refl (by rw [R6.closedM_false hx h1 h2])⟩
    · rw [Bool.not_eq_true] at h1
      have := R6.closedM_take hI hx (.inl h1)
      simp only [go_sem, ↓reduceIte, Nat.reduceLT, Nat.reduceLeDiff, Nat.reduceEqDiff, Nat.reduceAdd, Nat.reduceSub, Nat.reduceMul, Nat.reduceBEq, reduceCtorEq, Int.reduceLT, Int.reduceLE, Int.reduceEq, Int.reduceNe, Int.reduceBEq, Int.reduceBNe, Int.reduceAdd, Int.reduceSub, Int.reduceNeg, Int.reduceToNat, beq_self_eq_true, Option.all_some, Option.all_none, Option.some_beq_some, Bool.and_self, List.size_toArray, cond_true, cond_false, beq_true, beq_false, bne_self_eq_false, List.append_eq, hlt, lof_getD hx, b1, b2, R6.dif_zero, R6.dif_nzero, h1]
      (repeat' (first | assumption | (rw [InK_i64]; omega) | (rw [InK_u8]; omega) | (rw [InK_u64]; omega) | omega | rfl | apply And.intro))
  · simp only [go_sem, ↓reduceIte, Nat.reduceLT, Nat.reduceLeDiff, Nat.reduceEqDiff, Nat.reduceAdd, Nat.reduceSub, Nat.reduceMul, Nat.reduceBEq, reduceCtorEq, Int.reduceLT, Int.reduceLE, Int.reduceEq, Int.reduceNe, Int.reduceBEq, Int.reduceBNe, Int.reduceAdd, Int.reduceSub, Int.reduceNeg, Int.reduceToNat, beq_self_eq_true, Option.all_some, Option.all_none, Option.some_beq_some, Bool.and_self, List.size_toArray, cond_true, cond_false, beq_true, beq_false, bne_self_eq_false, List.append_eq, hlt]
    rw [take_all hk hlt] at hI
    exact ex_le_refl (by rw [hI])
noncomputable def tab_closedL : Tab := tabOf (fun p : (List (Nat × Nat)) × (Nat) => match p with | (L, s) => [prsP L, u64P s]) (fun p : (List (Nat × Nat)) × (Nat) => match p with | (L, s) => RsOK L ∧ s < 64) (fun p : (List (Nat × Nat)) × (Nat) => match p with | (L, s) => boolP (R6.closedM L s))
theorem tab_closedL_eq (L : List (Nat × Nat)) (s : Nat) : tab_closedL [prsP L, u64P s] = some (RsOK L ∧ s < 64, .p (boolP (R6.closedM L s))) := tabOf_eq (enc := fun p : (List (Nat × Nat)) × (Nat) => match p with | (L, s) => [prsP L, u64P s]) (pre := fun p : (List (Nat × Nat)) × (Nat) => match p with | (L, s) => RsOK L ∧ s < 64) (out := fun p : (List (Nat × Nat)) × (Nat) => match p with | (L, s) => boolP (R6.closedM L s)) (by rintro ⟨L, s⟩ ⟨L', s'⟩ h; simp at h; first | (simp [h]; done) | omega | (simp [h]; omega)) (L, s)
theorem tab_closedL_ok : TabOK Tryd.prog 17 tab_closedL := tabOf_ok (by rintro ⟨L, s⟩ h; exact closedL_spec L s h)
noncomputable abbrev ent_closedL : FuncId × List Nat × Tab := (17, [2], tab_closedL)
attribute [go_sem] tab_closedL_eq

theorem followsL_spec (L : List (Nat × Nat)) (n : Nat) (s : Nat) (hpre : RsOK L ∧ n ≤ 6 ∧ s < 64) : Ret Tryd.prog 15 [prsP L, natP n, u64P s] (u64P (R6.clo L n s)) := by
  refine fn_of (T := [ent_closedL]) (N := 31) (RO := []) (CH := []) (KS := [0, 1, 2, 6, 7, 8, 13, 14, 15, 25]) (NS := []) (fun args w => Tryd.call15 args w) Tryd.func15 rfl rfl (by simp) mixed (by kernel_rfl) ⟨tab_closedL_ok, trivial⟩ ?_
  simp only [go_sem, ↓reduceIte, Nat.reduceLT, Nat.reduceLeDiff, Nat.reduceEqDiff, Nat.reduceAdd, Nat.reduceSub, Nat.reduceMul, Nat.reduceBEq, reduceCtorEq, Int.reduceLT, Int.reduceLE, Int.reduceEq, Int.reduceNe, Int.reduceBEq, Int.reduceBNe, Int.reduceAdd, Int.reduceSub, Int.reduceNeg, Int.reduceToNat, beq_self_eq_true, Option.all_some, Option.all_none, Option.some_beq_some, Bool.and_self, List.size_toArray, cond_true, cond_false, beq_true, beq_false, bne_self_eq_false, List.append_eq]
  have h64 := R6.pow64 hpre.2.1
  have hp := Nat.two_pow_pos n
  have hs := hpre.2.2
  have hn := hpre.2.1
  simp only [go_sem, ↓reduceIte, Nat.reduceLT, Nat.reduceLeDiff, Nat.reduceEqDiff, Nat.reduceAdd, Nat.reduceSub, Nat.reduceMul, Nat.reduceBEq, reduceCtorEq, Int.reduceLT, Int.reduceLE, Int.reduceEq, Int.reduceNe, Int.reduceBEq, Int.reduceBNe, Int.reduceAdd, Int.reduceSub, Int.reduceNeg, Int.reduceToNat, beq_self_eq_true, Option.all_some, Option.all_none, Option.some_beq_some, Bool.and_self, List.size_toArray, cond_true, cond_false, beq_true, beq_false, bne_self_eq_false, List.append_eq, shl_one, full_nat]
  refine ⟨⟨by omega, by rw [InK_u64]; omega⟩, by rw [InK_u64]; omega, ⟨by omega, by rw [InK_u64]; omega⟩, ?_⟩
  refine vfor [0,2,7,13,14] [] [] (2 ^ n) (fun k => True) (fun k => ⟨[(0,.p (prsP L)),(2,.p (u64P s)),(7,.p (u64P (R6.cloU L n s k))),(13,.p (u64P (2 ^ n))),(14,.p (u64P k))], []⟩) (by first | rfl | (simp only [go_sem, ↓reduceIte, Nat.reduceLT, Nat.reduceLeDiff, Nat.reduceEqDiff, Nat.reduceAdd, Nat.reduceSub, Nat.reduceMul, Nat.reduceBEq, reduceCtorEq, Int.reduceLT, Int.reduceLE, Int.reduceEq, Int.reduceNe, Int.reduceBEq, Int.reduceBNe, Int.reduceAdd, Int.reduceSub, Int.reduceNeg, Int.reduceToNat, beq_self_eq_true, Option.all_some, Option.all_none, Option.some_beq_some, Bool.and_self, List.size_toArray, cond_true, cond_false, beq_true, beq_false, bne_self_eq_false, List.append_eq, R6.cloU_zero]; first | done | rfl)) trivial ?_
  intro k hk _
  have hcl := R6.cloU_le L n s k
  have hcs := R6.cloU_succ L n s k
  have b1 := bits_andNot64 (show s < 18446744073709551616 by omega) (show k < 18446744073709551616 by omega)
  have b2 := bits_and64 (show R6.cloU L n s k < 18446744073709551616 by omega) (show k < 18446744073709551616 by omega)
  by_cases hlt : k < 2 ^ n
  · by_cases h1 : R6.sub s k = true
    · by_cases h2 : R6.closedM L k = true
      · rw [if_pos (by simp [h1, h2])] at hcs
        simp only [go_sem, ↓reduceIte, Nat.reduceLT, Nat.reduceLeDiff, Nat.reduceEqDiff, Nat.reduceAdd, Nat.reduceSub, Nat.reduceMul, Nat.reduceBEq, reduceCtorEq, Int.reduceLT, Int.reduceLE, Int.reduceEq, Int.reduceNe, Int.reduceBEq, Int.reduceBNe, Int.reduceAdd, Int.reduceSub, Int.reduceNeg, Int.reduceToNat, beq_self_eq_true, Option.all_some, Option.all_none, Option.some_beq_some, Bool.and_self, List.size_toArray, cond_true, cond_false, beq_true, beq_false, bne_self_eq_false, List.append_eq, hlt, b1, b2, R6.dif_zero, h1, h2]
        rw [hcs]
        exact ⟨⟨hpre.1, by omega⟩, by rw [InK_u64]; omega, rfl⟩
      · rw [Bool.not_eq_true] at h2
        rw [if_neg (by simp [h2])] at hcs
        simp only [go_sem, ↓reduceIte, Nat.reduceLT, Nat.reduceLeDiff, Nat.reduceEqDiff, Nat.reduceAdd, Nat.reduceSub, Nat.reduceMul, Nat.reduceBEq, reduceCtorEq, Int.reduceLT, Int.reduceLE, Int.reduceEq, Int.reduceNe, Int.reduceBEq, Int.reduceBNe, Int.reduceAdd, Int.reduceSub, Int.reduceNeg, Int.reduceToNat, beq_self_eq_true, Option.all_some, Option.all_none, Option.some_beq_some, Bool.and_self, List.size_toArray, cond_true, cond_false, beq_true, beq_false, bne_self_eq_false, List.append_eq, hlt, b1, b2, R6.dif_zero, h1, h2]
        rw [hcs]
        exact ⟨⟨hpre.1, by omega⟩, by rw [InK_u64]; omega, rfl⟩
    · rw [Bool.not_eq_true] at h1
      rw [if_neg (by simp [h1])] at hcs
      simp only [go_sem, ↓reduceIte, Nat.reduceLT, Nat.reduceLeDiff, Nat.reduceEqDiff, Nat.reduceAdd, Nat.reduceSub, Nat.reduceMul, Nat.reduceBEq, reduceCtorEq, Int.reduceLT, Int.reduceLE, Int.reduceEq, Int.reduceNe, Int.reduceBEq, Int.reduceBNe, Int.reduceAdd, Int.reduceSub, Int.reduceNeg, Int.reduceToNat, beq_self_eq_true, Option.all_some, Option.all_none, Option.some_beq_some, Bool.and_self, List.size_toArray, cond_true, cond_false, beq_true, beq_false, bne_self_eq_false, List.append_eq, hlt, b1, b2, R6.dif_zero, h1]
      rw [hcs]
      exact ⟨by rw [InK_u64]; omega, rfl⟩
  · simp only [go_sem, ↓reduceIte, Nat.reduceLT, Nat.reduceLeDiff, Nat.reduceEqDiff, Nat.reduceAdd, Nat.reduceSub, Nat.reduceMul, Nat.reduceBEq, reduceCtorEq, Int.reduceLT, Int.reduceLE, Int.reduceEq, Int.reduceNe, Int.reduceBEq, Int.reduceBNe, Int.reduceAdd, Int.reduceSub, Int.reduceNeg, Int.reduceToNat, beq_self_eq_true, Option.all_some, Option.all_none, Option.some_beq_some, Bool.and_self, List.size_toArray, cond_true, cond_false, beq_true, beq_false, bne_self_eq_false, List.append_eq, hlt]
    obtain rfl : k = 2 ^ n := by omega
    exact ex_le_refl (by rw [R6.cloU_all])
noncomputable def tab_followsL : Tab := tabOf (fun p : (List (Nat × Nat)) × (Nat) × (Nat) => match p with | (L, n, s) => [prsP L, natP n, u64P s]) (fun p : (List (Nat × Nat)) × (Nat) × (Nat) => match p with | (L, n, s) => RsOK L ∧ n ≤ 6 ∧ s < 64) (fun p : (List (Nat × Nat)) × (Nat) × (Nat) => match p with | (L, n, s) => u64P (R6.clo L n s))
theorem tab_followsL_eq (L : List (Nat × Nat)) (n : Nat) (s : Nat) : tab_followsL [prsP L, natP n, u64P s] = some (RsOK L ∧ n ≤ 6 ∧ s < 64, .p (u64P (R6.clo L n s))) := tabOf_eq (enc := fun p : (List (Nat × Nat)) × (Nat) × (Nat) => match p with | (L, n, s) => [prsP L, natP n, u64P s]) (pre := fun p : (List (Nat × Nat)) × (Nat) × (Nat) => match p with | (L, n, s) => RsOK L ∧ n ≤ 6 ∧ s < 64) (out := fun p : (List (Nat × Nat)) × (Nat) × (Nat) => match p with | (L, n, s) => u64P (R6.clo L n s)) (by rintro ⟨L, n, s⟩ ⟨L', n', s'⟩ h; simp at h; first | (simp [h]; done) | omega | (simp [h]; omega)) (L, n, s)
theorem tab_followsL_ok : TabOK Tryd.prog 15 tab_followsL := tabOf_ok (by rintro ⟨L, n, s⟩ h; exact followsL_spec L n s h)
noncomputable abbrev ent_followsL : FuncId × List Nat × Tab := (15, [2], tab_followsL)
attribute [go_sem] tab_followsL_eq

theorem opensL_spec (L : List (Nat × Nat)) (n : Nat) (hpre : RsOK L ∧ n ≤ 6) : Ret Tryd.prog 11 [prsP L, natP n] (unsP (R6.openL L n)) := by
  refine fn_of (T := [ent_closedL, ent_followsL]) (N := 50) (RO := [46]) (CH := []) (KS := [0, 1, 4, 5, 6, 7, 9, 11, 12, 13, 19, 20, 21, 22, 43]) (NS := [4, 5, 47]) (fun args w => Tryd.call11 args w) Tryd.func11 rfl rfl (by simp) mixed (by kernel_rfl) ⟨tab_closedL_ok, tab_followsL_ok, trivial⟩ ?_
  simp only [go_sem, ↓reduceIte, Nat.reduceLT, Nat.reduceLeDiff, Nat.reduceEqDiff, Nat.reduceAdd, Nat.reduceSub, Nat.reduceMul, Nat.reduceBEq, reduceCtorEq, Int.reduceLT, Int.reduceLE, Int.reduceEq, Int.reduceNe, Int.reduceBEq, Int.reduceBNe, Int.reduceAdd, Int.reduceSub, Int.reduceNeg, Int.reduceToNat, beq_self_eq_true, Option.all_some, Option.all_none, Option.some_beq_some, Bool.and_self, List.size_toArray, cond_true, cond_false, beq_true, beq_false, bne_self_eq_false, List.append_eq]
  have h64 := R6.pow64 hpre.2
  have hp := Nat.two_pow_pos n
  have hn := hpre.2
  simp only [go_sem, ↓reduceIte, Nat.reduceLT, Nat.reduceLeDiff, Nat.reduceEqDiff, Nat.reduceAdd, Nat.reduceSub, Nat.reduceMul, Nat.reduceBEq, reduceCtorEq, Int.reduceLT, Int.reduceLE, Int.reduceEq, Int.reduceNe, Int.reduceBEq, Int.reduceBNe, Int.reduceAdd, Int.reduceSub, Int.reduceNeg, Int.reduceToNat, beq_self_eq_true, Option.all_some, Option.all_none, Option.some_beq_some, Bool.and_self, List.size_toArray, cond_true, cond_false, beq_true, beq_false, bne_self_eq_false, List.append_eq, shl_one]
  refine ⟨⟨by omega, by rw [InK_u64]; omega⟩, ?_⟩
  refine vfor [0,1,5,11,12] [5] [.nilS 5 39 1] (2 ^ n) (fun k => True) (fun k => ⟨[(0,.p (prsP L)),(1,.p (natP n)),(5,.sl 5),(11,.p (u64P (2 ^ n))),(12,.p (u64P k))], [(5, .vec 39 1 (lof u64P (R6.openU L n k)))]⟩) (by first | rfl | (simp only [go_sem, ↓reduceIte, Nat.reduceLT, Nat.reduceLeDiff, Nat.reduceEqDiff, Nat.reduceAdd, Nat.reduceSub, Nat.reduceMul, Nat.reduceBEq, reduceCtorEq, Int.reduceLT, Int.reduceLE, Int.reduceEq, Int.reduceNe, Int.reduceBEq, Int.reduceBNe, Int.reduceAdd, Int.reduceSub, Int.reduceNeg, Int.reduceToNat, beq_self_eq_true, Option.all_some, Option.all_none, Option.some_beq_some, Bool.and_self, List.size_toArray, cond_true, cond_false, beq_true, beq_false, bne_self_eq_false, List.append_eq]; first | done | rfl)) trivial ?_
  intro k hk _
  have hl := R6.openU_length L n k
  have hu := R6.openU_lt L n k
  by_cases hlt : k < 2 ^ n
  · simp only [go_sem, ↓reduceIte, Nat.reduceLT, Nat.reduceLeDiff, Nat.reduceEqDiff, Nat.reduceAdd, Nat.reduceSub, Nat.reduceMul, Nat.reduceBEq, reduceCtorEq, Int.reduceLT, Int.reduceLE, Int.reduceEq, Int.reduceNe, Int.reduceBEq, Int.reduceBNe, Int.reduceAdd, Int.reduceSub, Int.reduceNeg, Int.reduceToNat, beq_self_eq_true, Option.all_some, Option.all_none, Option.some_beq_some, Bool.and_self, List.size_toArray, cond_true, cond_false, beq_true, beq_false, bne_self_eq_false, List.append_eq, hlt]
    refine ⟨⟨hpre.1, by omega⟩, ?_⟩
    have hus : R6.openU L n (k + 1) = R6.openU L n k ++ if R6.isOp L n (R6.openU L n k) k = true then [k] else [] := rfl
    unfold R6.isOp at hus
    generalize R6.openU L n k = out at *
    refine vfor [0,1,5,6,7,11,12,19,20,21] [5] [] out.length (fun j => True) (fun j => ⟨[(0,.p (prsP L)),(1,.p (natP n)),(5,.sl 5),(6,.p (u64P k)),(7,.p (boolP (!R6.closedM L k && (out.take j).all (R6.opAt L n k)))),(11,.p (u64P (2 ^ n))),(12,.p (u64P k)),(19,.sl 5),(20,.p (natP out.length)),(21,.p (natP j))], [(5, .vec 39 1 (lof u64P out))]⟩) (by first | rfl | (simp only [go_sem, ↓reduceIte, Nat.reduceLT, Nat.reduceLeDiff, Nat.reduceEqDiff, Nat.reduceAdd, Nat.reduceSub, Nat.reduceMul, Nat.reduceBEq, reduceCtorEq, Int.reduceLT, Int.reduceLE, Int.reduceEq, Int.reduceNe, Int.reduceBEq, Int.reduceBNe, Int.reduceAdd, Int.reduceSub, Int.reduceNeg, Int.reduceToNat, beq_self_eq_true, Option.all_some, Option.all_none, Option.some_beq_some, Bool.and_self, List.size_toArray, cond_true, cond_false, beq_true, beq_false, bne_self_eq_false, List.append_eq, List.take_zero, List.all_nil]; first | done | rfl)) trivial ?_
    intro j hj _
    by_cases hjl : j < out.length
    · obtain ⟨o, ho⟩ := get_some hjl
      have hok := hu o (List.mem_of_getElem? ho)
      have htk : (out.take (j + 1)).all (R6.opAt L n k) = ((out.take j).all (R6.opAt L n k) && R6.opAt L n k o) := by rw [R6.take_succ_of ho, List.all_append]; simp
      have hc := R6.clo_lt L n o
      have b1 := bits_andNot64 (show o < 18446744073709551616 by omega) (show k < 18446744073709551616 by omega)
      have b2 := bits_andNot64 (show R6.clo L n o < 18446744073709551616 by omega) (show k < 18446744073709551616 by omega)
      have h0 : o < 64 := by omega
      have hp1 := hpre.1
      by_cases h1 : (!R6.closedM L k && (out.take j).all (R6.opAt L n k)) = true
      · by_cases h2 : R6.sub o k = true
        · simp only [go_sem, ↓reduceIte, Nat.reduceLT, Nat.reduceLeDiff, Nat.reduceEqDiff, Nat.reduceAdd, Nat.reduceSub, Nat.reduceMul, Nat.reduceBEq, reduceCtorEq, Int.reduceLT, Int.reduceLE, Int.reduceEq, Int.reduceNe, Int.reduceBEq, Int.reduceBNe, Int.reduceAdd, Int.reduceSub, Int.reduceNeg, Int.reduceToNat, beq_self_eq_true, Option.all_some, Option.all_none, Option.some_beq_some, Bool.and_self, List.size_toArray, cond_true, cond_false, beq_true, beq_false, bne_self_eq_false, List.append_eq, hjl, lof_getD ho, b1, b2, R6.dif_zero, R6.dif_nzero, h1, h2, Bool.not_not]
          rw [htk, ← Bool.and_assoc, h1, Bool.true_and]
          have e : R6.opAt L n k o = R6.sub (R6.clo L n o) k := by simp [R6.opAt, h2]
          rw [e]
          (repeat' (first | assumption | (rw [InK_i64]; omega) | (rw [InK_u8]; omega) | (rw [InK_u64]; omega) | omega | rfl | apply And.intro))
        · rw [Bool.not_eq_true] at h2
          have e : R6.opAt L n k o = true := by simp [R6.opAt, h2]
          simp only [go_sem, ↓reduceIte, Nat.reduceLT, Nat.reduceLeDiff, Nat.reduceEqDiff, Nat.reduceAdd, Nat.reduceSub, Nat.reduceMul, Nat.reduceBEq, reduceCtorEq, Int.reduceLT, Int.reduceLE, Int.reduceEq, Int.reduceNe, Int.reduceBEq, Int.reduceBNe, Int.reduceAdd, Int.reduceSub, Int.reduceNeg, Int.reduceToNat, beq_self_eq_true, Option.all_some, Option.all_none, Option.some_beq_some, Bool.and_self, List.size_toArray, cond_true, cond_false, beq_true, beq_false, bne_self_eq_false, List.append_eq, hjl, lof_getD ho, b1, b2, R6.dif_zero, R6.dif_nzero, h1, h2]
          rw [htk, ← Bool.and_assoc, h1, Bool.true_and, e]
          (repeat' (first | assumption | (rw [InK_i64]; omega) | (rw [InK_u8]; omega) | (rw [InK_u64]; omega) | omega | rfl | apply And.intro))
      · rw [Bool.not_eq_true] at h1
        simp only [go_sem, ↓reduceIte, Nat.reduceLT, Nat.reduceLeDiff, Nat.reduceEqDiff, Nat.reduceAdd, Nat.reduceSub, Nat.reduceMul, Nat.reduceBEq, reduceCtorEq, Int.reduceLT, Int.reduceLE, Int.reduceEq, Int.reduceNe, Int.reduceBEq, Int.reduceBNe, Int.reduceAdd, Int.reduceSub, Int.reduceNeg, Int.reduceToNat, beq_self_eq_true, Option.all_some, Option.all_none, Option.some_beq_some, Bool.and_self, List.size_toArray, cond_true, cond_false, beq_true, beq_false, bne_self_eq_false, List.append_eq, hjl, lof_getD ho, b1, b2, R6.dif_zero, R6.dif_nzero, h1]
        rw [htk, ← Bool.and_assoc, h1, Bool.false_and]
        (repeat' (first | assumption | (rw [InK_i64]; omega) | (rw [InK_u8]; omega) | (rw [InK_u64]; omega) | omega | rfl | apply And.intro))
    · rw [take_all hj hjl]
      by_cases h1 : (!R6.closedM L k && out.all (R6.opAt L n k)) = true
      · rw [if_pos h1] at hus
        simp only [go_sem, ↓reduceIte, Nat.reduceLT, Nat.reduceLeDiff, Nat.reduceEqDiff, Nat.reduceAdd, Nat.reduceSub, Nat.reduceMul, Nat.reduceBEq, reduceCtorEq, Int.reduceLT, Int.reduceLE, Int.reduceEq, Int.reduceNe, Int.reduceBEq, Int.reduceBNe, Int.reduceAdd, Int.reduceSub, Int.reduceNeg, Int.reduceToNat, beq_self_eq_true, Option.all_some, Option.all_none, Option.some_beq_some, Bool.and_self, List.size_toArray, cond_true, cond_false, beq_true, beq_false, bne_self_eq_false, List.append_eq, hjl, h1]
        rw [hus, ← lof_append]
        exact ⟨by omega, by rw [InK_u64]; omega, hlt, rfl⟩
      · rw [if_neg h1, List.append_nil] at hus
        rw [Bool.not_eq_true] at h1
        simp only [go_sem, ↓reduceIte, Nat.reduceLT, Nat.reduceLeDiff, Nat.reduceEqDiff, Nat.reduceAdd, Nat.reduceSub, Nat.reduceMul, Nat.reduceBEq, reduceCtorEq, Int.reduceLT, Int.reduceLE, Int.reduceEq, Int.reduceNe, Int.reduceBEq, Int.reduceBNe, Int.reduceAdd, Int.reduceSub, Int.reduceNeg, Int.reduceToNat, beq_self_eq_true, Option.all_some, Option.all_none, Option.some_beq_some, Bool.and_self, List.size_toArray, cond_true, cond_false, beq_true, beq_false, bne_self_eq_false, List.append_eq, hjl, h1]
        rw [hus]
        exact ⟨by rw [InK_u64]; omega, hlt, rfl⟩
  · simp only [go_sem, ↓reduceIte, Nat.reduceLT, Nat.reduceLeDiff, Nat.reduceEqDiff, Nat.reduceAdd, Nat.reduceSub, Nat.reduceMul, Nat.reduceBEq, reduceCtorEq, Int.reduceLT, Int.reduceLE, Int.reduceEq, Int.reduceNe, Int.reduceBEq, Int.reduceBNe, Int.reduceAdd, Int.reduceSub, Int.reduceNeg, Int.reduceToNat, beq_self_eq_true, Option.all_some, Option.all_none, Option.some_beq_some, Bool.and_self, List.size_toArray, cond_true, cond_false, beq_true, beq_false, bne_self_eq_false, List.append_eq, hlt]
    obtain rfl : k = 2 ^ n := by omega
    exact ex_le_refl rfl
noncomputable def tab_opensL : Tab := tabOf (fun p : (List (Nat × Nat)) × (Nat) => match p with | (L, n) => [prsP L, natP n]) (fun p : (List (Nat × Nat)) × (Nat) => match p with | (L, n) => RsOK L ∧ n ≤ 6) (fun p : (List (Nat × Nat)) × (Nat) => match p with | (L, n) => unsP (R6.openL L n))
theorem tab_opensL_eq (L : List (Nat × Nat)) (n : Nat) : tab_opensL [prsP L, natP n] = some (RsOK L ∧ n ≤ 6, .p (unsP (R6.openL L n))) := tabOf_eq (enc := fun p : (List (Nat × Nat)) × (Nat) => match p with | (L, n) => [prsP L, natP n]) (pre := fun p : (List (Nat × Nat)) × (Nat) => match p with | (L, n) => RsOK L ∧ n ≤ 6) (out := fun p : (List (Nat × Nat)) × (Nat) => match p with | (L, n) => unsP (R6.openL L n)) (by rintro ⟨L, n⟩ ⟨L', n'⟩ h; simp at h; first | (simp [h]; done) | omega | (simp [h]; omega)) (L, n)
theorem tab_opensL_ok : TabOK Tryd.prog 11 tab_opensL := tabOf_ok (by rintro ⟨L, n⟩ h; exact opensL_spec L n h)
noncomputable abbrev ent_opensL : FuncId × List Nat × Tab := (11, [2], tab_opensL)
attribute [go_sem] tab_opensL_eq

abbrev talkP (f s : Nat) (A : List Nat) : PV := .agg (u8P f :: u8P s :: lof u8P A)
def TalkOK (f s : Nat) (A : List Nat) : Prop := f < 256 ∧ s < 256 ∧ A.length = 16 ∧ ∀ x ∈ A, x < 256
theorem u8s_one (A : List Nat) : (List.map AV.p (lof u8P A)).all AV.one = true := by
  rw [List.all_eq_true]
  intro x hx
  simp only [lof, List.map_map, List.mem_map, Function.comp] at hx
  obtain ⟨a, _, rfl⟩ := hx
  rfl
theorem u8s_norm (A : List Nat) : List.map (norm0 1) (lof u8P A) = lof u8P A := by
  simp only [lof, List.map_map]
  apply List.map_congr_left
  intro a _; rfl
theorem u8s_take {A : List Nat} (h : A.length = 16) : List.take 16 (lof u8P A) = lof u8P A := List.take_of_length_le (by rw [lof_length]; omega)
theorem emod_nat (a b : Nat) : (a : Int) % (b : Int) = ((a % b : Nat) : Int) := (Int.natCast_emod a b).symm

theorem readLL_spec (l : List Int) (n : Int) (hpre : sz l.length ∧ 1 ≤ n ∧ n ≤ 6) : Ret Tryd.prog 13 [ints l, intP n] (.tuple [u64P (R6.readL n l).1, boolP (R6.readL n l).2]) := by
  refine fn_of (T := []) (N := 31) (RO := []) (CH := []) (KS := [0, 1, 4, 5, 6, 7, 9, 10, 11, 12, 13, 23]) (NS := []) (fun args w => Tryd.call13 args w) Tryd.func13 rfl rfl (by simp) mixed (by kernel_rfl) trivial ?_
  simp only [go_sem, ↓reduceIte, Nat.reduceLT, Nat.reduceLeDiff, Nat.reduceEqDiff, Nat.reduceAdd, Nat.reduceSub, Nat.reduceMul, Nat.reduceBEq, reduceCtorEq, Int.reduceLT, Int.reduceLE, Int.reduceEq, Int.reduceNe, Int.reduceBEq, Int.reduceBNe, Int.reduceAdd, Int.reduceSub, Int.reduceNeg, Int.reduceToNat, beq_self_eq_true, Option.all_some, Option.all_none, Option.some_beq_some, Bool.and_self, List.size_toArray, cond_true, cond_false, beq_true, beq_false, bne_self_eq_false, List.append_eq]
  refine vwhile [1,6,7,10,11,12] [] [] (fun d : Nat × Nat × Int => d.1 ≤ l.length ∧ d.2.1 < 2 ^ n.toNat ∧ -1 ≤ d.2.2 ∧ d.2.2 < n ∧ R6.readErr n l (-1) = R6.readErr n (l.drop d.1) d.2.2 ∧ R6.maskOf l = (l.drop d.1).foldl (fun o x => o ||| 2 ^ x.toNat) d.2.1)
    (fun d => l.length - d.1) (fun d => ⟨[(1,.p (intP n)),(6,.p (u64P d.2.1)),(7,.p (intP d.2.2)),(10,.p (ints l)),(11,.p (natP l.length)),(12,.p (natP d.1))], []⟩) (0, 0, -1) (by first | rfl | (simp only [go_sem, ↓reduceIte, Nat.reduceLT, Nat.reduceLeDiff, Nat.reduceEqDiff, Nat.reduceAdd, Nat.reduceSub, Nat.reduceMul, Nat.reduceBEq, reduceCtorEq, Int.reduceLT, Int.reduceLE, Int.reduceEq, Int.reduceNe, Int.reduceBEq, Int.reduceBNe, Int.reduceAdd, Int.reduceSub, Int.reduceNeg, Int.reduceToNat, beq_self_eq_true, Option.all_some, Option.all_none, Option.some_beq_some, Bool.and_self, List.size_toArray, cond_true, cond_false, beq_true, beq_false, bne_self_eq_false, List.append_eq]; first | done | rfl)) ⟨by simp, Nat.two_pow_pos _, by simp, by simp; omega, rfl, rfl⟩ ?_
  rintro ⟨k, o, la⟩ ⟨hk, ho, hl1, hl2, hE, hM⟩
  simp only at hk ho hl1 hl2 hE hM
  have h64 := R6.pow_le64 hpre.2.2
  by_cases hlt : k < l.length
  · obtain ⟨x, hx⟩ := get_some hlt
    have hd : l.drop k = x :: l.drop (k + 1) := by rw [List.drop_eq_getElem_cons hlt]; simp [List.getElem?_eq_getElem hlt] at hx; rw [hx]
    rw [hd] at hE hM
    rw [R6.readErr_cons] at hE
    have hsz := hpre.1
    by_cases h3 : x ≤ la
    · have he : R6.readErr n l (-1) ≠ 0 := by
        rw [hE, if_pos h3]
        split <;> decide
      simp only [go_sem, ↓reduceIte, Nat.reduceLT, Nat.reduceLeDiff, Nat.reduceEqDiff, Nat.reduceAdd, Nat.reduceSub, Nat.reduceMul, Nat.reduceBEq, reduceCtorEq, Int.reduceLT, Int.reduceLE, Int.reduceEq, Int.reduceNe, Int.reduceBEq, Int.reduceBNe, Int.reduceAdd, Int.reduceSub, Int.reduceNeg, Int.reduceToNat, beq_self_eq_true, Option.all_some, Option.all_none, Option.some_beq_some, Bool.and_self, List.size_toArray, cond_true, cond_false, beq_true, beq_false, bne_self_eq_false, List.append_eq, hlt, lof_getD hx, h3]
      exact ex_le_refl (by simp [R6.readL, R6.listed_eq, he])
    · by_cases h2 : n ≤ x
      · have he : R6.readErr n l (-1) ≠ 0 := by rw [hE, if_pos (by omega)]; decide
        simp only [go_sem, ↓reduceIte, Nat.reduceLT, Nat.reduceLeDiff, Nat.reduceEqDiff, Nat.reduceAdd, Nat.reduceSub, Nat.reduceMul, Nat.reduceBEq, reduceCtorEq, Int.reduceLT, Int.reduceLE, Int.reduceEq, Int.reduceNe, Int.reduceBEq, Int.reduceBNe, Int.reduceAdd, Int.reduceSub, Int.reduceNeg, Int.reduceToNat, beq_self_eq_true, Option.all_some, Option.all_none, Option.some_beq_some, Bool.and_self, List.size_toArray, cond_true, cond_false, beq_true, beq_false, bne_self_eq_false, List.append_eq, hlt, lof_getD hx, h3, h2]
        exact ex_le_refl (by simp [R6.readL, R6.listed_eq, he])
      · rw [if_neg (by omega), if_neg h3] at hE
        obtain ⟨j, rfl⟩ : ∃ j : Nat, x = j := ⟨x.toNat, by omega⟩
        have hj : 2 ^ j < 2 ^ n.toNat := Nat.pow_lt_pow_right (by omega) (by omega)
        have hp := Nat.two_pow_pos j
        simp only [go_sem, ↓reduceIte, Nat.reduceLT, Nat.reduceLeDiff, Nat.reduceEqDiff, Nat.reduceAdd, Nat.reduceSub, Nat.reduceMul, Nat.reduceBEq, reduceCtorEq, Int.reduceLT, Int.reduceLE, Int.reduceEq, Int.reduceNe, Int.reduceBEq, Int.reduceBNe, Int.reduceAdd, Int.reduceSub, Int.reduceNeg, Int.reduceToNat, beq_self_eq_true, Option.all_some, Option.all_none, Option.some_beq_some, Bool.and_self, List.size_toArray, cond_true, cond_false, beq_true, beq_false, bne_self_eq_false, List.append_eq, hlt, lof_getD hx, h2, h3, shl_one, bits_or64 (show o < 18446744073709551616 by omega) (show 2 ^ j < 18446744073709551616 by omega)]
        refine ⟨⟨by omega, by rw [InK_u64]; omega⟩, by rw [InK_i64]; omega, (k + 1, o ||| 2 ^ j, (j : Int)), by simp only; omega, ⟨by simp only; omega, Nat.or_lt_two_pow ho hj, by simp only; omega, by simp only; omega, hE, ?_⟩, rfl⟩
        rw [hM]; rfl
  · simp only [go_sem, ↓reduceIte, Nat.reduceLT, Nat.reduceLeDiff, Nat.reduceEqDiff, Nat.reduceAdd, Nat.reduceSub, Nat.reduceMul, Nat.reduceBEq, reduceCtorEq, Int.reduceLT, Int.reduceLE, Int.reduceEq, Int.reduceNe, Int.reduceBEq, Int.reduceBNe, Int.reduceAdd, Int.reduceSub, Int.reduceNeg, Int.reduceToNat, beq_self_eq_true, Option.all_some, Option.all_none, Option.some_beq_some, Bool.and_self, List.size_toArray, cond_true, cond_false, beq_true, beq_false, bne_self_eq_false, List.append_eq, hlt]
    have hd : l.drop k = [] := List.drop_of_length_le (by omega)
    rw [hd] at hE hM
    exact ex_le_refl (by simp [R6.readL, R6.listed_eq, hE, R6.readErr, hM])
noncomputable def tab_readLL : Tab := tabOf (fun p : (List Int) × (Int) => match p with | (l, n) => [ints l, intP n]) (fun p : (List Int) × (Int) => match p with | (l, n) => sz l.length ∧ 1 ≤ n ∧ n ≤ 6) (fun p : (List Int) × (Int) => match p with | (l, n) => .tuple [u64P (R6.readL n l).1, boolP (R6.readL n l).2])
theorem tab_readLL_eq (l : List Int) (n : Int) : tab_readLL [ints l, intP n] = some (sz l.length ∧ 1 ≤ n ∧ n ≤ 6, .p (.tuple [u64P (R6.readL n l).1, boolP (R6.readL n l).2])) := tabOf_eq (enc := fun p : (List Int) × (Int) => match p with | (l, n) => [ints l, intP n]) (pre := fun p : (List Int) × (Int) => match p with | (l, n) => sz l.length ∧ 1 ≤ n ∧ n ≤ 6) (out := fun p : (List Int) × (Int) => match p with | (l, n) => .tuple [u64P (R6.readL n l).1, boolP (R6.readL n l).2]) (by rintro ⟨l, n⟩ ⟨l', n'⟩ h; simp at h; first | (simp [h]; done) | omega | (simp [h]; omega)) (l, n)
theorem tab_readLL_ok : TabOK Tryd.prog 13 tab_readLL := tabOf_ok (by rintro ⟨l, n⟩ h; exact readLL_spec l n h)
noncomputable abbrev ent_readLL : FuncId × List Nat × Tab := (13, [1], tab_readLL)
attribute [go_sem] tab_readLL_eq

theorem made_spec (f : Nat) (s : Nat) (A : List Nat) (nfi : Int) (nmi : Int) (hpre : TalkOK f s A ∧ 1 ≤ nfi ∧ nfi ≤ 6 ∧ 0 ≤ nmi ∧ nmi ≤ 8) : Ret Tryd.prog 10 [talkP f s A, intP nfi, intP nmi] (.tuple [bookP (1 + f % nfi.toNat : Nat) (R6.bk (R6.madeL (2 ^ (1 + f % nfi.toNat) - 1) A (s % (nmi.toNat + 1)))), prsP (R6.madeL (2 ^ (1 + f % nfi.toNat) - 1) A (s % (nmi.toNat + 1)))]) := by
  refine fn_of (T := [ent_members, ent_sentence]) (N := 67) (RO := [3, 50, 61]) (CH := [12, 52, 53, 62, 63, 2000012]) (KS := [0, 1, 2, 3, 6, 7, 8, 9, 10, 11, 12, 29, 30, 31]) (NS := [6, 7, 8, 10, 51, 62, 900]) (fun args w => Tryd.call10 args w) Tryd.func10 rfl rfl (by simp) mixed (by kernel_rfl) ⟨tab_members_ok, tab_sentence_ok, trivial⟩ ?_
  simp only [go_sem, ↓reduceIte, Nat.reduceLT, Nat.reduceLeDiff, Nat.reduceEqDiff, Nat.reduceAdd, Nat.reduceSub, Nat.reduceMul, Nat.reduceBEq, reduceCtorEq, Int.reduceLT, Int.reduceLE, Int.reduceEq, Int.reduceNe, Int.reduceBEq, Int.reduceBNe, Int.reduceAdd, Int.reduceSub, Int.reduceNeg, Int.reduceToNat, beq_self_eq_true, Option.all_some, Option.all_none, Option.some_beq_some, Bool.and_self, List.size_toArray, cond_true, cond_false, beq_true, beq_false, bne_self_eq_false, List.append_eq]
  obtain ⟨⟨hf, hs, hA, hA2⟩, hn1, hn6, hm0, hm⟩ := hpre
  obtain ⟨nf, rfl⟩ : ∃ k : Nat, nfi = k := ⟨nfi.toNat, by omega⟩
  obtain ⟨nm, rfl⟩ : ∃ k : Nat, nmi = k := ⟨nmi.toNat, by omega⟩
  simp only [Int.toNat_natCast]
  have e1 := emod_nat f nf
  have e3 := emod_nat s (nm + 1)
  have hr1 := Nat.mod_lt f (show nf > 0 by omega)
  have hr2 := Nat.mod_lt s (show nm + 1 > 0 by omega)
  have e2 : (1 : Int) + ((f % nf : Nat) : Int) = ((1 + f % nf : Nat) : Int) := by omega
  have e4 : ((nm : Int) + 1) = ((nm + 1 : Nat) : Int) := by omega
  simp only [go_sem, ↓reduceIte, Nat.reduceLT, Nat.reduceLeDiff, Nat.reduceEqDiff, Nat.reduceAdd, Nat.reduceSub, Nat.reduceMul, Nat.reduceBEq, reduceCtorEq, Int.reduceLT, Int.reduceLE, Int.reduceEq, Int.reduceNe, Int.reduceBEq, Int.reduceBNe, Int.reduceAdd, Int.reduceSub, Int.reduceNeg, Int.reduceToNat, beq_self_eq_true, Option.all_some, Option.all_none, Option.some_beq_some, Bool.and_self, List.size_toArray, cond_true, cond_false, beq_true, beq_false, bne_self_eq_false, List.append_eq, u8s_one, lof_length, e1, e2, e3, e4, shl_one, full_nat]
  generalize hn : 1 + f % nf = n at *
  have h64 := R6.pow64 (show n ≤ 6 by omega)
  have hp := Nat.two_pow_pos n
  refine ⟨by omega, by rw [InK_i64]; omega, by omega, by rw [InK_i64]; omega, ⟨by omega, by rw [InK_u64]; omega⟩, by rw [InK_u64]; omega, by omega, by rw [InK_i64]; omega, by rw [InK_i64]; omega, by omega, ?_⟩
  generalize hm2 : s % (nm + 1) = m at *
  refine vfor [3,6,8,9,10,29,30] [6,8,10,900,62] [.nilS 10 45 2, .nilC 8 1 900 38 2, .ren 62 900] m (fun k => True) (fun k => ⟨[(3,.p (.ref (u8P f :: u8P s :: lof u8P A) 0)), (6,.ptr 6 0),(8,.ptr 8 0),(9,.p (u64P (2 ^ n - 1))),(10,.sl 10),(29,.p (natP m)),(30,.p (natP k))],
    [(6,.cells 27 [.p (intP 0), .p (.val (.slice none 0 0))]), (8,.cells 27 [.p (natP n), .sl 900]), (10,.vec 45 2 (lof prP (R6.madeL (2 ^ n - 1) A k))), (900,.vec 38 2 (lof sentP (R6.bk (R6.madeL (2 ^ n - 1) A k))))]⟩) (by first | rfl | (simp only [go_sem, ↓reduceIte, Nat.reduceLT, Nat.reduceLeDiff, Nat.reduceEqDiff, Nat.reduceAdd, Nat.reduceSub, Nat.reduceMul, Nat.reduceBEq, reduceCtorEq, Int.reduceLT, Int.reduceLE, Int.reduceEq, Int.reduceNe, Int.reduceBEq, Int.reduceBNe, Int.reduceAdd, Int.reduceSub, Int.reduceNeg, Int.reduceToNat, beq_self_eq_true, Option.all_some, Option.all_none, Option.some_beq_some, Bool.and_self, List.size_toArray, cond_true, cond_false, beq_true, beq_false, bne_self_eq_false, List.append_eq, R6.madeL_zero]; first | done | rfl)) trivial ?_
  intro k hk _
  by_cases hlt : k < m
  · obtain ⟨a, ha⟩ := get_some (show k < A.length by omega)
    obtain ⟨b, hb⟩ := get_some (show 8 + k < A.length by omega)
    have ha2 := hA2 a (List.mem_of_getElem? ha)
    have hb2 := hA2 b (List.mem_of_getElem? hb)
    have x1 : (u8P f :: u8P s :: lof u8P A).getD (2 + k * 1) default = u8P a := by
      rw [show 2 + k * 1 = k + 1 + 1 by omega, List.getD_cons_succ, List.getD_cons_succ]; exact lof_getD ha
    have x2 : (u8P f :: u8P s :: lof u8P A).getD (10 + k * 1) default = u8P b := by
      rw [show 10 + k * 1 = (8 + k) + 1 + 1 by omega, List.getD_cons_succ, List.getD_cons_succ]; exact lof_getD hb
    have b1 := bits_and64 (show a < 18446744073709551616 by omega) (show 2 ^ n - 1 < 18446744073709551616 by omega)
    have b2 := bits_and64 (show b < 18446744073709551616 by omega) (show 2 ^ n - 1 < 18446744073709551616 by omega)
    have hms := R6.madeL_succ (2 ^ n - 1) A k
    have hml := R6.madeL_length (2 ^ n - 1) A k
    have hbl := R6.bk_length (R6.madeL (2 ^ n - 1) A k)
    rw [show A.getD k 0 = a by simp [ha], show A.getD (8 + k) 0 = b by simp [hb]] at hms
    have ha3 : a &&& (2 ^ n - 1) ≤ 2 ^ n - 1 := Nat.and_le_right
    have hb3 : b &&& (2 ^ n - 1) ≤ 2 ^ n - 1 := Nat.and_le_right
    simp only [go_sem, ↓reduceIte, Nat.reduceLT, Nat.reduceLeDiff, Nat.reduceEqDiff, Nat.reduceAdd, Nat.reduceSub, Nat.reduceMul, Nat.reduceBEq, reduceCtorEq, Int.reduceLT, Int.reduceLE, Int.reduceEq, Int.reduceNe, Int.reduceBEq, Int.reduceBNe, Int.reduceAdd, Int.reduceSub, Int.reduceNeg, Int.reduceToNat, beq_self_eq_true, Option.all_some, Option.all_none, Option.some_beq_some, Bool.and_self, List.size_toArray, cond_true, cond_false, beq_true, beq_false, bne_self_eq_false, List.append_eq, hlt, x1, x2, b1, b2]
    rw [hms, R6.bk_append, ← lof_append (f := prP)]
    exact ⟨by omega, by omega, by rw [InK_u64]; omega, by omega, by omega, by rw [InK_u64]; omega, by omega, by omega, by omega, by omega, by omega, by omega, by rw [InK_i64]; omega, rfl⟩
  · simp only [go_sem, ↓reduceIte, Nat.reduceLT, Nat.reduceLeDiff, Nat.reduceEqDiff, Nat.reduceAdd, Nat.reduceSub, Nat.reduceMul, Nat.reduceBEq, reduceCtorEq, Int.reduceLT, Int.reduceLE, Int.reduceEq, Int.reduceNe, Int.reduceBEq, Int.reduceBNe, Int.reduceAdd, Int.reduceSub, Int.reduceNeg, Int.reduceToNat, beq_self_eq_true, Option.all_some, Option.all_none, Option.some_beq_some, Bool.and_self, List.size_toArray, cond_true, cond_false, beq_true, beq_false, bne_self_eq_false, List.append_eq, hlt]
    obtain rfl : k = m := by omega
    exact ex_le_refl rfl
noncomputable def tab_made : Tab := tabOf (fun p : (Nat) × (Nat) × (List Nat) × (Int) × (Int) => match p with | (f, s, A, nfi, nmi) => [talkP f s A, intP nfi, intP nmi]) (fun p : (Nat) × (Nat) × (List Nat) × (Int) × (Int) => match p with | (f, s, A, nfi, nmi) => TalkOK f s A ∧ 1 ≤ nfi ∧ nfi ≤ 6 ∧ 0 ≤ nmi ∧ nmi ≤ 8) (fun p : (Nat) × (Nat) × (List Nat) × (Int) × (Int) => match p with | (f, s, A, nfi, nmi) => .tuple [bookP (1 + f % nfi.toNat : Nat) (R6.bk (R6.madeL (2 ^ (1 + f % nfi.toNat) - 1) A (s % (nmi.toNat + 1)))), prsP (R6.madeL (2 ^ (1 + f % nfi.toNat) - 1) A (s % (nmi.toNat + 1)))])
theorem tab_made_eq (f : Nat) (s : Nat) (A : List Nat) (nfi : Int) (nmi : Int) : tab_made [talkP f s A, intP nfi, intP nmi] = some (TalkOK f s A ∧ 1 ≤ nfi ∧ nfi ≤ 6 ∧ 0 ≤ nmi ∧ nmi ≤ 8, .p (.tuple [bookP (1 + f % nfi.toNat : Nat) (R6.bk (R6.madeL (2 ^ (1 + f % nfi.toNat) - 1) A (s % (nmi.toNat + 1)))), prsP (R6.madeL (2 ^ (1 + f % nfi.toNat) - 1) A (s % (nmi.toNat + 1)))])) := tabOf_eq (enc := fun p : (Nat) × (Nat) × (List Nat) × (Int) × (Int) => match p with | (f, s, A, nfi, nmi) => [talkP f s A, intP nfi, intP nmi]) (pre := fun p : (Nat) × (Nat) × (List Nat) × (Int) × (Int) => match p with | (f, s, A, nfi, nmi) => TalkOK f s A ∧ 1 ≤ nfi ∧ nfi ≤ 6 ∧ 0 ≤ nmi ∧ nmi ≤ 8) (out := fun p : (Nat) × (Nat) × (List Nat) × (Int) × (Int) => match p with | (f, s, A, nfi, nmi) => .tuple [bookP (1 + f % nfi.toNat : Nat) (R6.bk (R6.madeL (2 ^ (1 + f % nfi.toNat) - 1) A (s % (nmi.toNat + 1)))), prsP (R6.madeL (2 ^ (1 + f % nfi.toNat) - 1) A (s % (nmi.toNat + 1)))]) (by rintro ⟨f, s, A, nfi, nmi⟩ ⟨f', s', A', nfi', nmi'⟩ h; simp at h; first | (simp [h]; done) | omega | (simp [h]; omega)) (f, s, A, nfi, nmi)
theorem tab_made_ok : TabOK Tryd.prog 10 tab_made := tabOf_ok (by rintro ⟨f, s, A, nfi, nmi⟩ h; exact made_spec f s A nfi nmi h)
noncomputable abbrev ent_made : FuncId × List Nat × Tab := (10, [], tab_made)
attribute [go_sem] tab_made_eq
theorem cloneS_spec (l : List (List Int × List Int)) (hpre : sz l.length) : RetR Tryd.prog 27 [sents l] (.vec 38 2 (lof sentP l)) := by
  refine fnV_of (T := []) (N := 8) (RO := []) (CH := []) (KS := [0, 2, 4]) (NS := [2, 5, 7]) (fun args w => Tryd.call27 args w) Tryd.func27 rfl rfl (by simp) mixed (by kernel_rfl) trivial ?_
  simp only [go_sem, ↓reduceIte, Nat.reduceLT, Nat.reduceLeDiff, Nat.reduceEqDiff, Nat.reduceAdd, Nat.reduceSub, Nat.reduceMul, Nat.reduceBEq, reduceCtorEq, Int.reduceLT, Int.reduceLE, Int.reduceEq, Int.reduceNe, Int.reduceBEq, Int.reduceBNe, Int.reduceAdd, Int.reduceSub, Int.reduceNeg, Int.reduceToNat, beq_self_eq_true, Option.all_some, Option.all_none, Option.some_beq_some, Bool.and_self, List.size_toArray, cond_true, cond_false, beq_true, beq_false, bne_self_eq_false, List.append_eq]
  intro t ht
  cases t with
  | true =>
    have : l = [] := Classical.not_not.1 fun h => by have := ht (by simpa [lof] using h); cases this
    subst this
    simp only [go_sem, ↓reduceIte, Nat.reduceLT, Nat.reduceLeDiff, Nat.reduceEqDiff, Nat.reduceAdd, Nat.reduceSub, Nat.reduceMul, Nat.reduceBEq, reduceCtorEq, Int.reduceLT, Int.reduceLE, Int.reduceEq, Int.reduceNe, Int.reduceBEq, Int.reduceBNe, Int.reduceAdd, Int.reduceSub, Int.reduceNeg, Int.reduceToNat, beq_self_eq_true, Option.all_some, Option.all_none, Option.some_beq_some, Bool.and_self, List.size_toArray, cond_true, cond_false, beq_true, beq_false, bne_self_eq_false, List.append_eq]
    exact ⟨rfl, 38, 2, rfl, rfl, rfl⟩
  | false =>
    simp only [go_sem, ↓reduceIte, Nat.reduceLT, Nat.reduceLeDiff, Nat.reduceEqDiff, Nat.reduceAdd, Nat.reduceSub, Nat.reduceMul, Nat.reduceBEq, reduceCtorEq, Int.reduceLT, Int.reduceLE, Int.reduceEq, Int.reduceNe, Int.reduceBEq, Int.reduceBNe, Int.reduceAdd, Int.reduceSub, Int.reduceNeg, Int.reduceToNat, beq_self_eq_true, Option.all_some, Option.all_none, Option.some_beq_some, Bool.and_self, List.size_toArray, cond_true, cond_false, beq_true, beq_false, bne_self_eq_false, List.append_eq]
    exact Nat.le_trans hpre (by decide)
noncomputable def tab_cloneS : Tab := tabR (fun l : List (List Int × List Int) => [sents l]) (fun l => sz l.length) (fun l => .vec 38 2 (lof sentP l))
theorem tab_cloneS_eq (l : List (List Int × List Int)) : tab_cloneS [sents l] = some (sz l.length, .vec 38 2 (lof sentP l)) := tabR_eq (enc := fun l : List (List Int × List Int) => [sents l]) (pre := fun l => sz l.length) (out := fun l => .vec 38 2 (lof sentP l)) (by intro a b h; simpa using h) l
theorem tab_cloneS_ok : TabOK Tryd.prog 27 tab_cloneS := tabR_ok (fun l h => cloneS_spec l h)
noncomputable abbrev ent_cloneS : FuncId × List Nat × Tab := (27, [2], tab_cloneS)
attribute [go_sem] tab_cloneS_eq

theorem clonePr_spec (l : List (Nat × Nat)) (hpre : sz l.length) : RetR Tryd.prog 31 [prsP l] (.vec 45 2 (lof prP l)) := by
  refine fnV_of (T := []) (N := 8) (RO := []) (CH := []) (KS := [0, 2, 4]) (NS := [2, 5, 7]) (fun args w => Tryd.call31 args w) Tryd.func31 rfl rfl (by simp) mixed (by kernel_rfl) trivial ?_
  simp only [go_sem, ↓reduceIte, Nat.reduceLT, Nat.reduceLeDiff, Nat.reduceEqDiff, Nat.reduceAdd, Nat.reduceSub, Nat.reduceMul, Nat.reduceBEq, reduceCtorEq, Int.reduceLT, Int.reduceLE, Int.reduceEq, Int.reduceNe, Int.reduceBEq, Int.reduceBNe, Int.reduceAdd, Int.reduceSub, Int.reduceNeg, Int.reduceToNat, beq_self_eq_true, Option.all_some, Option.all_none, Option.some_beq_some, Bool.and_self, List.size_toArray, cond_true, cond_false, beq_true, beq_false, bne_self_eq_false, List.append_eq]
  intro t ht
  cases t with
  | true =>
    have : l = [] := Classical.not_not.1 fun h => by have := ht (by simpa [lof] using h); cases this
    subst this
    simp only [go_sem, ↓reduceIte, Nat.reduceLT, Nat.reduceLeDiff, Nat.reduceEqDiff, Nat.reduceAdd, Nat.reduceSub, Nat.reduceMul, Nat.reduceBEq, reduceCtorEq, Int.reduceLT, Int.reduceLE, Int.reduceEq, Int.reduceNe, Int.reduceBEq, Int.reduceBNe, Int.reduceAdd, Int.reduceSub, Int.reduceNeg, Int.reduceToNat, beq_self_eq_true, Option.all_some, Option.all_none, Option.some_beq_some, Bool.and_self, List.size_toArray, cond_true, cond_false, beq_true, beq_false, bne_self_eq_false, List.append_eq]
    exact ⟨rfl, 45, 2, rfl, rfl, rfl⟩
  | false =>
    simp only [go_sem, ↓reduceIte, Nat.reduceLT, Nat.reduceLeDiff, Nat.reduceEqDiff, Nat.reduceAdd, Nat.reduceSub, Nat.reduceMul, Nat.reduceBEq, reduceCtorEq, Int.reduceLT, Int.reduceLE, Int.reduceEq, Int.reduceNe, Int.reduceBEq, Int.reduceBNe, Int.reduceAdd, Int.reduceSub, Int.reduceNeg, Int.reduceToNat, beq_self_eq_true, Option.all_some, Option.all_none, Option.some_beq_some, Bool.and_self, List.size_toArray, cond_true, cond_false, beq_true, beq_false, bne_self_eq_false, List.append_eq]
    exact Nat.le_trans hpre (by decide)
noncomputable def tab_clonePr : Tab := tabR (fun l : List (Nat × Nat) => [prsP l]) (fun l => sz l.length) (fun l => .vec 45 2 (lof prP l))
theorem tab_clonePr_eq (l : List (Nat × Nat)) : tab_clonePr [prsP l] = some (sz l.length, .vec 45 2 (lof prP l)) := tabR_eq (enc := fun l : List (Nat × Nat) => [prsP l]) (pre := fun l => sz l.length) (out := fun l => .vec 45 2 (lof prP l)) (by intro a b h; simpa using h) l
theorem tab_clonePr_ok : TabOK Tryd.prog 31 tab_clonePr := tabR_ok (fun l h => clonePr_spec l h)
noncomputable abbrev ent_clonePr : FuncId × List Nat × Tab := (31, [2], tab_clonePr)
attribute [go_sem] tab_clonePr_eq

theorem lst_sz (m : Nat) : sz (R6.lst m).length := by have := R6.lst_length m; unfold sz; omega
theorem bk_ok (L : R6.Rs) : BkOK (R6.bk L) := by
  intro s hs
  obtain ⟨r, _, rfl⟩ := List.mem_map.1 hs
  exact ⟨lst_sz _, lst_sz _⟩
end Go.V
