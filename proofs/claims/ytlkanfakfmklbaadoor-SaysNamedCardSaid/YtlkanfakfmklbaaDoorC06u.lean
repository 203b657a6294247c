/-
  Contracts of the program's functions: all closed sets, open sets, the base, and so on. Conditions: none.
-/
import Derived.Test.YtlkanfakfmklbaaDoorC06t
import Derived.Test.YtlkanfakfmklbaaDoorP6u
import Derived.Test.YtlkanfakfmklbaaDoorNamSh
set_option linter.unusedVariables false
set_option linter.unusedSimpArgs false
set_option linter.deprecated false
namespace Go.V
open Go.Proofs
set_option maxRecDepth 10000
set_option maxHeartbeats 1000000

abbrev rowsP (l : List (List Int)) : PV := .list .any 1 (lof ints l)
@[simp] theorem lof_ints_inj {l l' : List (List Int)} : lof ints l = lof ints l' ↔ l = l' := lof_inj (by intro a b h; simpa using h)
@[go_sem] theorem rows_snoc (l : List (List Int)) (x : List Int) : lof ints l ++ [.list .any 1 (lof intP x)] = lof ints (l ++ [x]) := by simp [lof]
@[go_sem] theorem sents_snoc (l : List (List Int × List Int)) (x y : List Int) : lof sentP l ++ [.agg [.list .any 1 (lof intP x), .list .any 1 (lof intP y)]] = lof sentP (l ++ [(x, y)]) := by simp [lof]

theorem cmpF8_spec (a : Nat) (b : Nat) (hpre : a < 256 ∧ b < 256) : Ret Tryd.prog 70 [u8P a, u8P b] (intP (R6.cmpF a b)) := by
  refine fn_of (T := [ent_list8, ent_cmpLL]) (N := 10) (RO := []) (CH := []) (KS := [0, 1, 4]) (NS := []) (fun args w => Tryd.call70 args w) Tryd.func70 rfl rfl (by simp) mixed (by kernel_rfl) ⟨tab_list8_ok, tab_cmpLL_ok, trivial⟩ ?_
  simp only [go_sem, ↓reduceIte, Nat.reduceLT, Nat.reduceLeDiff, Nat.reduceEqDiff, Nat.reduceAdd, Nat.reduceSub, Nat.reduceDiv, Nat.reduceMod, Nat.reduceMul, Nat.reduceBEq, Nat.reduceBNe, reduceCtorEq, Int.reduceLT, Int.reduceLE, Int.reduceEq, Int.reduceNe, Int.reduceBEq, Int.reduceBNe, Int.reduceAdd, Int.reduceSub, Int.reduceNeg, Int.reduceToNat]
  have h1 := R6.lst_length a
  have h2 := R6.lst_length b
  exact ⟨hpre.1, hpre.2, ⟨by omega, by omega⟩, ex_le_refl rfl⟩
theorem cmpF_orders {l : List Nat} : Orders R6.cmpF l where
  irrefl x _ := by unfold R6.cmpF; rw [cmpL_refl]; omega
  trans x _ y _ z _ h1 h2 := cmpL_lt_trans h1 h2
  ntrans x _ y _ z _ h1 h2 := cmpL_ntrans h1 h2

theorem sortedF {g : FuncId} {caps : List PV} {p : Nat → Bool} {m : Nat} {ks : List R6.Kn} (hm : m < 64) (hg : ∀ f, f ≤ m → Ret Tryd.prog g (u8P f :: caps) (boolP (p f))) :
    Ret Tryd.prog 49 [innerP m ks, .func g caps] (factsP (R6.sortedM m p)) := by
  refine fn_of (T := []) (N := 27) (RO := [2, 21]) (CH := []) (KS := [0, 1, 2, 4, 5, 6, 10, 11, 12, 17]) (NS := [4, 5, 22]) (fun args w => Tryd.call49 args w) Tryd.func49 rfl rfl (by simp) mixed (by kernel_rfl) trivial ?_
  simp only [go_sem, ↓reduceIte, Nat.reduceLT, Nat.reduceLeDiff, Nat.reduceEqDiff, Nat.reduceAdd, Nat.reduceSub, Nat.reduceDiv, Nat.reduceMod, Nat.reduceMul, Nat.reduceBEq, Nat.reduceBNe, reduceCtorEq, Int.reduceLT, Int.reduceLE, Int.reduceEq, Int.reduceNe, Int.reduceBEq, Int.reduceBNe, Int.reduceAdd, Int.reduceSub, Int.reduceNeg, Int.reduceToNat]
  refine ⟨by rw [InK_i64]; omega, by rw [InK_i64]; omega, ?_⟩
  refine vfor [1,2,5,10,11] [5] [.nilS 5 66 1] (m + 1) (fun k => k ≤ 64) (fun k => ⟨[(1,.p (.func g caps)),(2,.p (.ref [u8P m, knsP ks] 0)),(5,.sl 5),(10,.p (natP (m + 1))),(11,.p (natP k))], [(5, .vec 66 1 (lof u8P (R6.uptoF p k)))]⟩) (by first | rfl | (simp only [go_sem, ↓reduceIte, Nat.reduceLT, Nat.reduceLeDiff, Nat.reduceEqDiff, Nat.reduceAdd, Nat.reduceSub, Nat.reduceDiv, Nat.reduceMod, Nat.reduceMul, Nat.reduceBEq, Nat.reduceBNe, reduceCtorEq, Int.reduceLT, Int.reduceLE, Int.reduceEq, Int.reduceNe, Int.reduceBEq, Int.reduceBNe, Int.reduceAdd, Int.reduceSub, Int.reduceNeg, Int.reduceToNat, R6.uptoF_zero]; first | done | rfl)) (by simp) ?_
  intro k hk hk64
  have hfl := R6.uptoF_length p k
  have hfs := R6.uptoF_succ p k
  by_cases hlt : k < m + 1
  · simp only [go_sem, ↓reduceIte, Nat.reduceLT, Nat.reduceLeDiff, Nat.reduceEqDiff, Nat.reduceAdd, Nat.reduceSub, Nat.reduceDiv, Nat.reduceMod, Nat.reduceMul, Nat.reduceBEq, Nat.reduceBNe, reduceCtorEq, Int.reduceLT, Int.reduceLE, Int.reduceEq, Int.reduceNe, Int.reduceBEq, Int.reduceBNe, Int.reduceAdd, Int.reduceSub, Int.reduceNeg, Int.reduceToNat, hlt]
    refine ⟨by rw [InK_u8]; omega, vret_pure (hg k (by omega)) (by simp only [go_sem, ↓reduceIte, Nat.reduceLT, Nat.reduceLeDiff, Nat.reduceEqDiff, Nat.reduceAdd, Nat.reduceSub, Nat.reduceDiv, Nat.reduceMod, Nat.reduceMul, Nat.reduceBEq, Nat.reduceBNe, reduceCtorEq, Int.reduceLT, Int.reduceLE, Int.reduceEq, Int.reduceNe, Int.reduceBEq, Int.reduceBNe, Int.reduceAdd, Int.reduceSub, Int.reduceNeg, Int.reduceToNat]) (LeL.refl _) (by decide) ?_⟩
    by_cases hv : p k = true
    · rw [if_pos hv] at hfs
      simp only [go_sem, ↓reduceIte, Nat.reduceLT, Nat.reduceLeDiff, Nat.reduceEqDiff, Nat.reduceAdd, Nat.reduceSub, Nat.reduceDiv, Nat.reduceMod, Nat.reduceMul, Nat.reduceBEq, Nat.reduceBNe, reduceCtorEq, Int.reduceLT, Int.reduceLE, Int.reduceEq, Int.reduceNe, Int.reduceBEq, Int.reduceBNe, Int.reduceAdd, Int.reduceSub, Int.reduceNeg, Int.reduceToNat, hv]
      rw [← hfs]
      (repeat' (first | assumption | (rw [InK_i64]; omega) | (rw [InK_u8]; omega) | (rw [InK_u64]; omega) | omega | rfl | apply And.intro))
    · rw [if_neg hv, List.append_nil] at hfs
      rw [Bool.not_eq_true] at hv
      simp only [go_sem, ↓reduceIte, Nat.reduceLT, Nat.reduceLeDiff, Nat.reduceEqDiff, Nat.reduceAdd, Nat.reduceSub, Nat.reduceDiv, Nat.reduceMod, Nat.reduceMul, Nat.reduceBEq, Nat.reduceBNe, reduceCtorEq, Int.reduceLT, Int.reduceLE, Int.reduceEq, Int.reduceNe, Int.reduceBEq, Int.reduceBNe, Int.reduceAdd, Int.reduceSub, Int.reduceNeg, Int.reduceToNat, hv]
      rw [← hfs]
      (repeat' (first | assumption | (rw [InK_i64]; omega) | (rw [InK_u8]; omega) | (rw [InK_u64]; omega) | omega | rfl | apply And.intro))
  · obtain rfl : k = m + 1 := by omega
    simp only [go_sem, ↓reduceIte, Nat.reduceLT, Nat.reduceLeDiff, Nat.reduceEqDiff, Nat.reduceAdd, Nat.reduceSub, Nat.reduceDiv, Nat.reduceMod, Nat.reduceMul, Nat.reduceBEq, Nat.reduceBNe, reduceCtorEq, Int.reduceLT, Int.reduceLE, Int.reduceEq, Int.reduceNe, Int.reduceBEq, Int.reduceBNe, Int.reduceAdd, Int.reduceSub, Int.reduceNeg, Int.reduceToNat, hlt]
    have hmem : ∀ x ∈ R6.uptoF p (m + 1), x < 256 := fun x hx => by have := (R6.uptoF_mem.1 hx).1; omega
    refine vcall_sort1 sortLaw69 (f := u8P) (c := R6.cmpF) (by simp only [go_sem, seval]; first | done | rfl) (by decide) (fun _ _ => rfl) (by omega) cmpF_orders (fun x hx y hy => cmpF8_spec x y ⟨hmem x hx, hmem y hy⟩) (fun l' hp hs => ?_)
    have e := isort_unique (R6.cmpF_tot hmem) hp hs
    subst e
    simp only [go_sem, ↓reduceIte, Nat.reduceLT, Nat.reduceLeDiff, Nat.reduceEqDiff, Nat.reduceAdd, Nat.reduceSub, Nat.reduceDiv, Nat.reduceMod, Nat.reduceMul, Nat.reduceBEq, Nat.reduceBNe, reduceCtorEq, Int.reduceLT, Int.reduceLE, Int.reduceEq, Int.reduceNe, Int.reduceBEq, Int.reduceBNe, Int.reduceAdd, Int.reduceSub, Int.reduceNeg, Int.reduceToNat]
    exact ex_le_refl rfl
theorem clo1_spec (f : Nat) (m : Nat) (ks : List R6.Kn) (hpre : R6.KnOK ks ∧ f < 256) : Ret Tryd.prog 50 [u8P f, .ref [u8P m, knsP ks] 0] (boolP (R6.isCl ks f)) := by
  refine fn_of (T := [ent_follows8]) (N := 9) (RO := []) (CH := []) (KS := [0, 1, 3]) (NS := []) (fun args w => Tryd.call50 args w) Tryd.func50 rfl rfl (by simp) mixed (by kernel_rfl) ⟨tab_follows8_ok, trivial⟩ ?_
  simp only [go_sem, ↓reduceIte, Nat.reduceLT, Nat.reduceLeDiff, Nat.reduceEqDiff, Nat.reduceAdd, Nat.reduceSub, Nat.reduceDiv, Nat.reduceMod, Nat.reduceMul, Nat.reduceBEq, Nat.reduceBNe, reduceCtorEq, Int.reduceLT, Int.reduceLE, Int.reduceEq, Int.reduceNe, Int.reduceBEq, Int.reduceBNe, Int.reduceAdd, Int.reduceSub, Int.reduceNeg, Int.reduceToNat]
  simp only [go_sem, ↓reduceIte, Nat.reduceLT, Nat.reduceLeDiff, Nat.reduceEqDiff, Nat.reduceAdd, Nat.reduceSub, Nat.reduceDiv, Nat.reduceMod, Nat.reduceMul, Nat.reduceBEq, Nat.reduceBNe, reduceCtorEq, Int.reduceLT, Int.reduceLE, Int.reduceEq, Int.reduceNe, Int.reduceBEq, Int.reduceBNe, Int.reduceAdd, Int.reduceSub, Int.reduceNeg, Int.reduceToNat, cast_beq]
  exact ⟨hpre, ex_le_refl rfl⟩
theorem All6s_spec (n : Int) (l : List (List Int × List Int)) (hpre : BkOK l) : Ret Tryd.prog 23 [bookP n l] (.tuple [rowsP (R6.allM n l), errP (R6.check n l)]) := by
  refine fn_of (T := [ent_opened6, ent_list8]) (N := 32) (RO := [1, 4, 28]) (CH := []) (KS := [0, 1, 2, 3, 4, 5, 6, 8, 15, 19, 20, 21, 22]) (NS := [2, 6, 29]) (fun args w => Tryd.call23 args w) Tryd.func23 rfl rfl (by simp) mixed (by kernel_rfl) ⟨tab_opened6_ok, tab_list8_ok, trivial⟩ ?_
  simp only [go_sem, ↓reduceIte, Nat.reduceLT, Nat.reduceLeDiff, Nat.reduceEqDiff, Nat.reduceAdd, Nat.reduceSub, Nat.reduceDiv, Nat.reduceMod, Nat.reduceMul, Nat.reduceBEq, Nat.reduceBNe, reduceCtorEq, Int.reduceLT, Int.reduceLE, Int.reduceEq, Int.reduceNe, Int.reduceBEq, Int.reduceBNe, Int.reduceAdd, Int.reduceSub, Int.reduceNeg, Int.reduceToNat]
  refine ⟨hpre, ?_⟩
  by_cases h : R6.check n l = 0
  · have hn := R6.check_range h
    have h64 := R6.pow_le64 hn.2
    have hks := R6.knU_OK h
    have hA : R6.allM n l = (R6.sortedM (2 ^ n.toNat - 1) (R6.isCl (R6.knU l l.length))).map R6.lst := by simp [R6.allM, h]
    rw [hA, R6.openedM_ok h, h]
    generalize R6.knU l l.length = ks at *
    generalize hm : 2 ^ n.toNat - 1 = m at *
    simp only [go_sem, ↓reduceIte, Nat.reduceLT, Nat.reduceLeDiff, Nat.reduceEqDiff, Nat.reduceAdd, Nat.reduceSub, Nat.reduceDiv, Nat.reduceMod, Nat.reduceMul, Nat.reduceBEq, Nat.reduceBNe, reduceCtorEq, Int.reduceLT, Int.reduceLE, Int.reduceEq, Int.reduceNe, Int.reduceBEq, Int.reduceBNe, Int.reduceAdd, Int.reduceSub, Int.reduceNeg, Int.reduceToNat]
    refine vret_pure (sortedF (p := R6.isCl ks) (show m < 64 by omega) (fun f hf => clo1_spec f m ks ⟨hks, by omega⟩)) (by simp only [go_sem, seval]; first | done | rfl) (LeL.refl _) (by decide) ?_
    have hlen := R6.sortedM_length m (R6.isCl ks)
    have hmem : ∀ x ∈ R6.sortedM m (R6.isCl ks), x < 256 := fun x hx => by have := (R6.sortedM_mem.1 hx).1; omega
    generalize R6.sortedM m (R6.isCl ks) = fs at *
    simp only [go_sem, ↓reduceIte, Nat.reduceLT, Nat.reduceLeDiff, Nat.reduceEqDiff, Nat.reduceAdd, Nat.reduceSub, Nat.reduceDiv, Nat.reduceMod, Nat.reduceMul, Nat.reduceBEq, Nat.reduceBNe, reduceCtorEq, Int.reduceLT, Int.reduceLE, Int.reduceEq, Int.reduceNe, Int.reduceBEq, Int.reduceBNe, Int.reduceAdd, Int.reduceSub, Int.reduceNeg, Int.reduceToNat]
    refine vfor [6,19,20,21] [6] [.nilS 6 32 1] fs.length (fun k => True) (fun k => ⟨[(6,.sl 6),(19,.p (factsP fs)),(20,.p (natP fs.length)),(21,.p (natP k))], [(6, .vec 32 1 (lof ints ((fs.take k).map R6.lst)))]⟩) (by first | rfl | (simp only [go_sem, ↓reduceIte, Nat.reduceLT, Nat.reduceLeDiff, Nat.reduceEqDiff, Nat.reduceAdd, Nat.reduceSub, Nat.reduceDiv, Nat.reduceMod, Nat.reduceMul, Nat.reduceBEq, Nat.reduceBNe, reduceCtorEq, Int.reduceLT, Int.reduceLE, Int.reduceEq, Int.reduceNe, Int.reduceBEq, Int.reduceBNe, Int.reduceAdd, Int.reduceSub, Int.reduceNeg, Int.reduceToNat, List.take_zero, List.map_nil]; first | done | rfl)) trivial ?_
    intro k hk _
    by_cases hlt : k < fs.length
    · obtain ⟨x, hx⟩ := get_some hlt
      simp only [go_sem, ↓reduceIte, Nat.reduceLT, Nat.reduceLeDiff, Nat.reduceEqDiff, Nat.reduceAdd, Nat.reduceSub, Nat.reduceDiv, Nat.reduceMod, Nat.reduceMul, Nat.reduceBEq, Nat.reduceBNe, reduceCtorEq, Int.reduceLT, Int.reduceLE, Int.reduceEq, Int.reduceNe, Int.reduceBEq, Int.reduceBNe, Int.reduceAdd, Int.reduceSub, Int.reduceNeg, Int.reduceToNat, hlt, lof_getD hx, hmem x (List.mem_of_getElem? hx)]
      rw [R6.take_succ_of hx, List.map_append]
      refine ⟨by simp; omega, by rw [InK_i64]; omega, rfl⟩
    · simp only [go_sem, ↓reduceIte, Nat.reduceLT, Nat.reduceLeDiff, Nat.reduceEqDiff, Nat.reduceAdd, Nat.reduceSub, Nat.reduceDiv, Nat.reduceMod, Nat.reduceMul, Nat.reduceBEq, Nat.reduceBNe, reduceCtorEq, Int.reduceLT, Int.reduceLE, Int.reduceEq, Int.reduceNe, Int.reduceBEq, Int.reduceBNe, Int.reduceAdd, Int.reduceSub, Int.reduceNeg, Int.reduceToNat, hlt]
      rw [take_all hk hlt]
      exact ex_le_refl rfl
  · simp only [go_sem, ↓reduceIte, Nat.reduceLT, Nat.reduceLeDiff, Nat.reduceEqDiff, Nat.reduceAdd, Nat.reduceSub, Nat.reduceDiv, Nat.reduceMod, Nat.reduceMul, Nat.reduceBEq, Nat.reduceBNe, reduceCtorEq, Int.reduceLT, Int.reduceLE, Int.reduceEq, Int.reduceNe, Int.reduceBEq, Int.reduceBNe, Int.reduceAdd, Int.reduceSub, Int.reduceNeg, Int.reduceToNat, show (R6.check n l != 0) = true by simp [h]]
    refine ex_le ?_
    rw [show R6.allM n l = [] by simp [R6.allM, h]]
    (repeat' (first | exact Le.refl _ | exact Le.nilS _ _ | exact Le.tight | refine Le.tuple ?_ | refine Le.list ?_ | refine Le.agg ?_ | refine LeL.cons ?_ ?_ | exact LeL.nil))
noncomputable def tab_All6s : Tab := tabOf (fun p : (Int) × (List (List Int × List Int)) => match p with | (n, l) => [bookP n l]) (fun p : (Int) × (List (List Int × List Int)) => match p with | (n, l) => BkOK l) (fun p : (Int) × (List (List Int × List Int)) => match p with | (n, l) => .tuple [rowsP (R6.allM n l), errP (R6.check n l)])
theorem tab_All6s_eq (n : Int) (l : List (List Int × List Int)) : tab_All6s [bookP n l] = some (BkOK l, .p (.tuple [rowsP (R6.allM n l), errP (R6.check n l)])) := tabOf_eq (enc := fun p : (Int) × (List (List Int × List Int)) => match p with | (n, l) => [bookP n l]) (pre := fun p : (Int) × (List (List Int × List Int)) => match p with | (n, l) => BkOK l) (out := fun p : (Int) × (List (List Int × List Int)) => match p with | (n, l) => .tuple [rowsP (R6.allM n l), errP (R6.check n l)]) (by rintro ⟨n, l⟩ ⟨n', l'⟩ h; simp at h; first | (simp [h]; done) | omega | (simp [h]; omega)) (n, l)
theorem tab_All6s_ok : TabOK Tryd.prog 23 tab_All6s := tabOf_ok (by rintro ⟨n, l⟩ h; exact All6s_spec n l h)
noncomputable abbrev ent_All6s : FuncId × List Nat × Tab := (23, [2], tab_All6s)
attribute [go_sem] tab_All6s_eq

theorem opens1_spec (o1 : Nat) (o2 : Nat) (f : Nat) (g : Nat) (hpre : o1 < 256 ∧ o2 < 256 ∧ f < 256) : Ret Tryd.prog 65 [.agg [u8P o1, u8P o2], .ref [u8P f, u8P g] 0] (boolP (R6.sub o1 f && !R6.sub o2 f)) := by
  refine fn_of (T := [ent_sub8]) (N := 17) (RO := [2]) (CH := []) (KS := [0, 1, 2, 3]) (NS := []) (fun args w => Tryd.call65 args w) Tryd.func65 rfl rfl (by simp) mixed (by kernel_rfl) ⟨tab_sub8_ok, trivial⟩ ?_
  simp only [go_sem, ↓reduceIte, Nat.reduceLT, Nat.reduceLeDiff, Nat.reduceEqDiff, Nat.reduceAdd, Nat.reduceSub, Nat.reduceDiv, Nat.reduceMod, Nat.reduceMul, Nat.reduceBEq, Nat.reduceBNe, reduceCtorEq, Int.reduceLT, Int.reduceLE, Int.reduceEq, Int.reduceNe, Int.reduceBEq, Int.reduceBNe, Int.reduceAdd, Int.reduceSub, Int.reduceNeg, Int.reduceToNat]
  by_cases h : R6.sub o1 f = true
  · simp only [go_sem, ↓reduceIte, Nat.reduceLT, Nat.reduceLeDiff, Nat.reduceEqDiff, Nat.reduceAdd, Nat.reduceSub, Nat.reduceDiv, Nat.reduceMod, Nat.reduceMul, Nat.reduceBEq, Nat.reduceBNe, reduceCtorEq, Int.reduceLT, Int.reduceLE, Int.reduceEq, Int.reduceNe, Int.reduceBEq, Int.reduceBNe, Int.reduceAdd, Int.reduceSub, Int.reduceNeg, Int.reduceToNat, h, hpre.1, hpre.2.1, hpre.2.2]
    exact ex_le_refl rfl
  · rw [Bool.not_eq_true] at h
    simp only [go_sem, ↓reduceIte, Nat.reduceLT, Nat.reduceLeDiff, Nat.reduceEqDiff, Nat.reduceAdd, Nat.reduceSub, Nat.reduceDiv, Nat.reduceMod, Nat.reduceMul, Nat.reduceBEq, Nat.reduceBNe, reduceCtorEq, Int.reduceLT, Int.reduceLE, Int.reduceEq, Int.reduceNe, Int.reduceBEq, Int.reduceBNe, Int.reduceAdd, Int.reduceSub, Int.reduceNeg, Int.reduceToNat, h, hpre.1, hpre.2.1, hpre.2.2]
    exact ex_le_refl (by simp)
theorem opens6_spec (m : Nat) (ks : List R6.Kn) (hpre : R6.KnOK ks ∧ m < 64) : RetR Tryd.prog 45 [innerP m ks] (.vec 79 2 (lof bothP (R6.opensM m ks))) := by
  refine fnV_of (T := [ent_oc8, ent_oc, ent_follows8]) (N := 57) (RO := [1, 7, 49]) (CH := []) (KS := [0, 1, 2, 3, 4, 5, 6, 7, 11, 12, 13, 18, 19, 20, 42, 46]) (NS := [2, 3, 5, 50, 54]) (fun args w => Tryd.call45 args w) Tryd.func45 rfl rfl (by simp) mixed (by kernel_rfl) ⟨tab_oc8_ok, tab_oc_ok, tab_follows8_ok, trivial⟩ ?_
  simp only [go_sem, ↓reduceIte, Nat.reduceLT, Nat.reduceLeDiff, Nat.reduceEqDiff, Nat.reduceAdd, Nat.reduceSub, Nat.reduceDiv, Nat.reduceMod, Nat.reduceMul, Nat.reduceBEq, Nat.reduceBNe, reduceCtorEq, Int.reduceLT, Int.reduceLE, Int.reduceEq, Int.reduceNe, Int.reduceBEq, Int.reduceBNe, Int.reduceAdd, Int.reduceSub, Int.reduceNeg, Int.reduceToNat]
  obtain ⟨hks, hm⟩ := hpre
  have ho8 := R6.oc8_le m
  refine ⟨by omega, by rw [InK_i64]; omega, ?_⟩
  refine vfor [1,3,11,12] [3] [.nilS 3 79 2] (R6.oc8 m + 1) (fun _ => True) (fun s => ⟨[(1,.p (.ref [u8P m, knsP ks] 0)),(3,.sl 3),(11,.p (natP (R6.oc8 m + 1))),(12,.p (natP s))], [(3, .vec 79 2 (lof bothP (R6.opUpto m ks s)))]⟩) (by first | rfl | (simp only [go_sem, ↓reduceIte, Nat.reduceLT, Nat.reduceLeDiff, Nat.reduceEqDiff, Nat.reduceAdd, Nat.reduceSub, Nat.reduceDiv, Nat.reduceMod, Nat.reduceMul, Nat.reduceBEq, Nat.reduceBNe, reduceCtorEq, Int.reduceLT, Int.reduceLE, Int.reduceEq, Int.reduceNe, Int.reduceBEq, Int.reduceBNe, Int.reduceAdd, Int.reduceSub, Int.reduceNeg, Int.reduceToNat, R6.opUpto]; first | done | rfl)) trivial ?_
  intro s hs _
  have hol := R6.opUpto_length m ks s
  have hol' : (R6.opUpto m ks s).length ≤ 9 * 64 := Nat.le_trans hol (Nat.mul_le_mul (by omega) (by omega))
  have hom : ∀ x ∈ R6.opUpto m ks s, x.1 < 256 ∧ x.2 < 256 := fun x hx => by have := R6.opUpto_mem hx; have h2 := R6.fol_lt ks (-1) x.1; rw [← this.2] at h2; omega
  by_cases hlt : s < R6.oc8 m + 1
  · have hsu : R6.opUpto m ks (s + 1) = R6.opUpto m ks s ++ R6.opSize m ks (R6.opUpto m ks s) s := rfl
    generalize hout : R6.opUpto m ks s = out at *
    simp only [go_sem, ↓reduceIte, Nat.reduceLT, Nat.reduceLeDiff, Nat.reduceEqDiff, Nat.reduceAdd, Nat.reduceSub, Nat.reduceDiv, Nat.reduceMod, Nat.reduceMul, Nat.reduceBEq, Nat.reduceBNe, reduceCtorEq, Int.reduceLT, Int.reduceLE, Int.reduceEq, Int.reduceNe, Int.reduceBEq, Int.reduceBNe, Int.reduceAdd, Int.reduceSub, Int.reduceNeg, Int.reduceToNat, hlt]
    refine ⟨by rw [InK_i64]; omega, by rw [InK_i64]; omega, ?_⟩
    refine vfor [1,3,4,5,11,12,18,19] [3,5] [.nilS 5 79 2] (m + 1) (fun _ => True) (fun k => ⟨[(1,.p (.ref [u8P m, knsP ks] 0)),(3,.sl 3),(4,.p (natP s)),(5,.sl 5),(11,.p (natP (R6.oc8 m + 1))),(12,.p (natP s)),(18,.p (natP (m + 1))),(19,.p (natP k))], [(3, .vec 79 2 (lof bothP out)), (5, .vec 79 2 (lof bothP ((R6.uptoF (R6.opP ks out s) k).map fun f => (f, R6.fol ks (-1) f))))]⟩) (by first | rfl | (simp only [go_sem, ↓reduceIte, Nat.reduceLT, Nat.reduceLeDiff, Nat.reduceEqDiff, Nat.reduceAdd, Nat.reduceSub, Nat.reduceDiv, Nat.reduceMod, Nat.reduceMul, Nat.reduceBEq, Nat.reduceBNe, reduceCtorEq, Int.reduceLT, Int.reduceLE, Int.reduceEq, Int.reduceNe, Int.reduceBEq, Int.reduceBNe, Int.reduceAdd, Int.reduceSub, Int.reduceNeg, Int.reduceToNat, R6.uptoF_zero, List.map_nil]; first | done | rfl)) trivial ?_
    intro k hk _
    have hul := R6.uptoF_length (R6.opP ks out s) k
    have hus := R6.uptoF_succ (R6.opP ks out s) k
    by_cases hkl : k < m + 1
    · by_cases h1 : R6.oc8 k = s
      · by_cases h2 : R6.fol ks (-1) k = k
        · have hp : R6.opP ks out s k = false := by simp [R6.opP, h1, h2]
          rw [hp, if_neg (by simp), List.append_nil] at hus
          simp only [go_sem, ↓reduceIte, Nat.reduceLT, Nat.reduceLeDiff, Nat.reduceEqDiff, Nat.reduceAdd, Nat.reduceSub, Nat.reduceDiv, Nat.reduceMod, Nat.reduceMul, Nat.reduceBEq, Nat.reduceBNe, reduceCtorEq, Int.reduceLT, Int.reduceLE, Int.reduceEq, Int.reduceNe, Int.reduceBEq, Int.reduceBNe, Int.reduceAdd, Int.reduceSub, Int.reduceNeg, Int.reduceToNat, hkl, show k < 256 by omega, h1, h2]
          rw [hus]
          (repeat' (first | assumption | (rw [InK_i64]; omega) | (rw [InK_u8]; omega) | (rw [InK_u64]; omega) | omega | rfl | apply And.intro))
        · have hb : ((R6.fol ks (-1) k : Int) == (k : Int)) = false := by simp; omega
          have hk8 : k < 256 := by omega
          have hop : R6.opP ks out s k = !(out.any fun o => R6.sub o.1 k && !R6.sub o.2 k) := by simp [R6.opP, h1, h2]
          simp only [go_sem, ↓reduceIte, Nat.reduceLT, Nat.reduceLeDiff, Nat.reduceEqDiff, Nat.reduceAdd, Nat.reduceSub, Nat.reduceDiv, Nat.reduceMod, Nat.reduceMul, Nat.reduceBEq, Nat.reduceBNe, reduceCtorEq, Int.reduceLT, Int.reduceLE, Int.reduceEq, Int.reduceNe, Int.reduceBEq, Int.reduceBNe, Int.reduceAdd, Int.reduceSub, Int.reduceNeg, Int.reduceToNat, hkl, hk8, h1, hb]
          refine ⟨by rw [InK_u8]; omega, by rw [InK_u8]; omega, hks, by rw [InK_u64]; omega, ?_⟩
          refine vret_flat (containsFuncB (p := fun o => R6.sub o.1 k && !R6.sub o.2 k) (l := out) (by unfold sz; omega) (fun o ho => opens1_spec o.1 o.2 k (R6.fol ks (-1) k) ⟨(hom o ho).1, (hom o ho).2, hk8⟩)) (by simp only [go_sem, seval]; first | done | rfl) (LeL.refl _) (by simp only [go_sem, ↓reduceIte, Nat.reduceLT, Nat.reduceLeDiff, Nat.reduceEqDiff, Nat.reduceAdd, Nat.reduceSub, Nat.reduceDiv, Nat.reduceMod, Nat.reduceMul, Nat.reduceBEq, Nat.reduceBNe, reduceCtorEq, Int.reduceLT, Int.reduceLE, Int.reduceEq, Int.reduceNe, Int.reduceBEq, Int.reduceBNe, Int.reduceAdd, Int.reduceSub, Int.reduceNeg, Int.reduceToNat]) (by decide) ?_
          cases hq : (out.any fun o => R6.sub o.1 k && !R6.sub o.2 k) with
          | true =>
            rw [hop, hq, if_neg (by simp), List.append_nil] at hus
            simp only [go_sem, ↓reduceIte, Nat.reduceLT, Nat.reduceLeDiff, Nat.reduceEqDiff, Nat.reduceAdd, Nat.reduceSub, Nat.reduceDiv, Nat.reduceMod, Nat.reduceMul, Nat.reduceBEq, Nat.reduceBNe, reduceCtorEq, Int.reduceLT, Int.reduceLE, Int.reduceEq, Int.reduceNe, Int.reduceBEq, Int.reduceBNe, Int.reduceAdd, Int.reduceSub, Int.reduceNeg, Int.reduceToNat]
            rw [hus]
            (repeat' (first | assumption | (rw [InK_i64]; omega) | (rw [InK_u8]; omega) | (rw [InK_u64]; omega) | omega | rfl | apply And.intro))
          | false =>
            rw [hop, hq, if_pos (by simp)] at hus
            simp only [go_sem, ↓reduceIte, Nat.reduceLT, Nat.reduceLeDiff, Nat.reduceEqDiff, Nat.reduceAdd, Nat.reduceSub, Nat.reduceDiv, Nat.reduceMod, Nat.reduceMul, Nat.reduceBEq, Nat.reduceBNe, reduceCtorEq, Int.reduceLT, Int.reduceLE, Int.reduceEq, Int.reduceNe, Int.reduceBEq, Int.reduceBNe, Int.reduceAdd, Int.reduceSub, Int.reduceNeg, Int.reduceToNat]
            rw [hus, List.map_append]
            refine ⟨by simp; omega, by rw [InK_i64]; omega, hkl, rfl⟩
      · have hp : R6.opP ks out s k = false := by simp [R6.opP, h1]
        rw [hp, if_neg (by simp), List.append_nil] at hus
        simp only [go_sem, ↓reduceIte, Nat.reduceLT, Nat.reduceLeDiff, Nat.reduceEqDiff, Nat.reduceAdd, Nat.reduceSub, Nat.reduceDiv, Nat.reduceMod, Nat.reduceMul, Nat.reduceBEq, Nat.reduceBNe, reduceCtorEq, Int.reduceLT, Int.reduceLE, Int.reduceEq, Int.reduceNe, Int.reduceBEq, Int.reduceBNe, Int.reduceAdd, Int.reduceSub, Int.reduceNeg, Int.reduceToNat, hkl, show k < 256 by omega, show ((R6.oc8 k : Int) != (s : Int)) = true by simp; omega]
        rw [hus]
        (repeat' (first | assumption | (rw [InK_i64]; omega) | (rw [InK_u8]; omega) | (rw [InK_u64]; omega) | omega | rfl | apply And.intro))
    · simp only [go_sem, ↓reduceIte, Nat.reduceLT, Nat.reduceLeDiff, Nat.reduceEqDiff, Nat.reduceAdd, Nat.reduceSub, Nat.reduceDiv, Nat.reduceMod, Nat.reduceMul, Nat.reduceBEq, Nat.reduceBNe, reduceCtorEq, Int.reduceLT, Int.reduceLE, Int.reduceEq, Int.reduceNe, Int.reduceBEq, Int.reduceBNe, Int.reduceAdd, Int.reduceSub, Int.reduceNeg, Int.reduceToNat, hkl]
      obtain rfl : k = m + 1 := by omega
      rw [hsu, show R6.opSize m ks out s = (R6.uptoF (R6.opP ks out s) (m + 1)).map fun f => (f, R6.fol ks (-1) f) from rfl, ← lof_append]
      refine ⟨by simp; omega, by rw [InK_i64]; omega, hlt, rfl⟩
  · obtain rfl : s = R6.oc8 m + 1 := by omega
    simp only [go_sem, ↓reduceIte, Nat.reduceLT, Nat.reduceLeDiff, Nat.reduceEqDiff, Nat.reduceAdd, Nat.reduceSub, Nat.reduceDiv, Nat.reduceMod, Nat.reduceMul, Nat.reduceBEq, Nat.reduceBNe, reduceCtorEq, Int.reduceLT, Int.reduceLE, Int.reduceEq, Int.reduceNe, Int.reduceBEq, Int.reduceBNe, Int.reduceAdd, Int.reduceSub, Int.reduceNeg, Int.reduceToNat, hlt]
    rfl
noncomputable def tab_opens6 : Tab := tabR (fun p : Nat × List R6.Kn => [innerP p.1 p.2]) (fun p => R6.KnOK p.2 ∧ p.1 < 64) (fun p => .vec 79 2 (lof bothP (R6.opensM p.1 p.2)))
theorem tab_opens6_eq (m : Nat) (ks : List R6.Kn) : tab_opens6 [innerP m ks] = some (R6.KnOK ks ∧ m < 64, .vec 79 2 (lof bothP (R6.opensM m ks))) :=
  tabR_eq (enc := fun p : Nat × List R6.Kn => [innerP p.1 p.2]) (pre := fun p => R6.KnOK p.2 ∧ p.1 < 64) (out := fun p => .vec 79 2 (lof bothP (R6.opensM p.1 p.2))) (by rintro ⟨a, b⟩ ⟨c, d⟩ h; simp at h; simp [h]; omega) (m, ks)
theorem tab_opens6_ok : TabOK Tryd.prog 45 tab_opens6 := tabR_ok (fun p h => opens6_spec p.1 p.2 h)
noncomputable abbrev ent_opens6 : FuncId × List Nat × Tab := (45, [2], tab_opens6)
attribute [go_sem] tab_opens6_eq
theorem cmpB1_spec (a1 : Nat) (a2 : Nat) (b1 : Nat) (b2 : Nat) (hpre : a1 < 256 ∧ b1 < 256) : Ret Tryd.prog 47 [.agg [u8P a1, u8P a2], .agg [u8P b1, u8P b2]] (intP (R6.cmpF a1 b1)) := by
  refine fn_of (T := [ent_list8, ent_cmpLL]) (N := 12) (RO := [2, 3]) (CH := [4]) (KS := [0, 1, 2, 3, 4]) (NS := []) (fun args w => Tryd.call47 args w) Tryd.func47 rfl rfl (by simp) mixed (by kernel_rfl) ⟨tab_list8_ok, tab_cmpLL_ok, trivial⟩ ?_
  simp only [go_sem, ↓reduceIte, Nat.reduceLT, Nat.reduceLeDiff, Nat.reduceEqDiff, Nat.reduceAdd, Nat.reduceSub, Nat.reduceDiv, Nat.reduceMod, Nat.reduceMul, Nat.reduceBEq, Nat.reduceBNe, reduceCtorEq, Int.reduceLT, Int.reduceLE, Int.reduceEq, Int.reduceNe, Int.reduceBEq, Int.reduceBNe, Int.reduceAdd, Int.reduceSub, Int.reduceNeg, Int.reduceToNat]
  have h1 := R6.lst_length a1
  have h2 := R6.lst_length b1
  exact ⟨hpre.1, hpre.2, ⟨by omega, by omega⟩, ex_le_refl rfl⟩
theorem cmpB_orders {l : List (Nat × Nat)} : Orders R6.cmpB l where
  irrefl x _ := by unfold R6.cmpB R6.cmpF; rw [cmpL_refl]; omega
  trans x _ y _ z _ h1 h2 := cmpL_lt_trans h1 h2
  ntrans x _ y _ z _ h1 h2 := cmpL_ntrans h1 h2

theorem Base6s_spec (n : Int) (l : List (List Int × List Int)) (hpre : BkOK l) : Ret Tryd.prog 22 [bookP n l] (.tuple [sents (R6.baseM n l), errP (R6.check n l)]) := by
  refine fn_of (T := [ent_opened6, ent_list8, ent_opens6]) (N := 43) (RO := [1, 4, 9, 39]) (CH := [7, 28, 40]) (KS := [0, 1, 2, 3, 4, 5, 6, 7, 9, 16, 22, 23, 24, 25]) (NS := [2, 6, 7, 19, 40]) (fun args w => Tryd.call22 args w) Tryd.func22 rfl rfl (by simp) mixed (by kernel_rfl) ⟨tab_opened6_ok, tab_list8_ok, tab_opens6_ok, trivial⟩ ?_
  simp only [go_sem, ↓reduceIte, Nat.reduceLT, Nat.reduceLeDiff, Nat.reduceEqDiff, Nat.reduceAdd, Nat.reduceSub, Nat.reduceDiv, Nat.reduceMod, Nat.reduceMul, Nat.reduceBEq, Nat.reduceBNe, reduceCtorEq, Int.reduceLT, Int.reduceLE, Int.reduceEq, Int.reduceNe, Int.reduceBEq, Int.reduceBNe, Int.reduceAdd, Int.reduceSub, Int.reduceNeg, Int.reduceToNat]
  refine ⟨hpre, ?_⟩
  by_cases h : R6.check n l = 0
  · have hn := R6.check_range h
    have h64 := R6.pow_le64 hn.2
    have hks := R6.knU_OK h
    have hA : R6.baseM n l = R6.baseOf (2 ^ n.toNat - 1) (R6.knU l l.length) := by simp [R6.baseM, h]
    rw [hA, R6.openedM_ok h, h]
    generalize R6.knU l l.length = ks at *
    generalize hm : 2 ^ n.toNat - 1 = m at *
    have hm64 : m < 64 := by omega
    have hol := R6.opensM_length m ks hm64
    have hom : ∀ x ∈ R6.opensM m ks, x.1 < 256 ∧ x.2 < 256 := fun x hx => by have := R6.opUpto_mem hx; have h2 := R6.fol_lt ks (-1) x.1; rw [← this.2] at h2; omega
    simp only [go_sem, ↓reduceIte, Nat.reduceLT, Nat.reduceLeDiff, Nat.reduceEqDiff, Nat.reduceAdd, Nat.reduceSub, Nat.reduceDiv, Nat.reduceMod, Nat.reduceMul, Nat.reduceBEq, Nat.reduceBNe, reduceCtorEq, Int.reduceLT, Int.reduceLE, Int.reduceEq, Int.reduceNe, Int.reduceBEq, Int.reduceBNe, Int.reduceAdd, Int.reduceSub, Int.reduceNeg, Int.reduceToNat]
    refine ⟨⟨hks, hm64⟩, ?_⟩
    refine vcall_sortK sortLaw46 (by decide) (f := bothP) (c := R6.cmpB) (by simp only [go_sem, seval]; first | done | rfl) (by decide) (fun _ _ => ⟨_, rfl⟩) (by omega) cmpB_orders (fun x hx y hy => cmpB1_spec x.1 x.2 y.1 y.2 ⟨(hom x hx).1, (hom y hy).1⟩) (fun l' hp hs => ?_)
    have e := isort_unique (R6.cmpB_tot hm64) hp hs
    have hmem : ∀ x ∈ l', x.1 < 256 ∧ x.2 < 256 := fun x hx => hom x (hp.mem_iff.1 hx)
    have hll : l'.length ≤ 576 := by rw [hp.length_eq]; exact hol
    rw [show R6.baseOf m ks = l'.map fun s => (R6.lst s.1, R6.lst (R6.dif s.2 s.1)) by rw [e]; rfl]
    clear e hs hp
    simp only [go_sem, ↓reduceIte, Nat.reduceLT, Nat.reduceLeDiff, Nat.reduceEqDiff, Nat.reduceAdd, Nat.reduceSub, Nat.reduceDiv, Nat.reduceMod, Nat.reduceMul, Nat.reduceBEq, Nat.reduceBNe, reduceCtorEq, Int.reduceLT, Int.reduceLE, Int.reduceEq, Int.reduceNe, Int.reduceBEq, Int.reduceBNe, Int.reduceAdd, Int.reduceSub, Int.reduceNeg, Int.reduceToNat]
    refine vfor [6,7,22,23,24] [6,7] [.nilS 7 43 2] l'.length (fun _ => True) (fun k => ⟨[(6,.sl 6),(7,.sl 7),(22,.sl 6),(23,.p (natP l'.length)),(24,.p (natP k))], [(6, .vec 79 2 (lof bothP l')), (7, .vec 43 2 (lof sentP ((l'.take k).map fun s => (R6.lst s.1, R6.lst (R6.dif s.2 s.1)))))]⟩) (by first | rfl | (simp only [go_sem, ↓reduceIte, Nat.reduceLT, Nat.reduceLeDiff, Nat.reduceEqDiff, Nat.reduceAdd, Nat.reduceSub, Nat.reduceDiv, Nat.reduceMod, Nat.reduceMul, Nat.reduceBEq, Nat.reduceBNe, reduceCtorEq, Int.reduceLT, Int.reduceLE, Int.reduceEq, Int.reduceNe, Int.reduceBEq, Int.reduceBNe, Int.reduceAdd, Int.reduceSub, Int.reduceNeg, Int.reduceToNat, List.take_zero, List.map_nil]; first | done | rfl)) trivial ?_
    intro k hk _
    by_cases hlt : k < l'.length
    · obtain ⟨x, hx⟩ := get_some hlt
      have hxm := hmem x (List.mem_of_getElem? hx)
      have hdl : R6.dif x.2 x.1 < 256 := R6.lt_of_bits (n := 8) (fun i hi => by rw [R6.dif_testBit, Bool.and_eq_true] at hi; exact R6.testBit_lt (n := 8) hxm.2 hi.1)
      simp only [go_sem, ↓reduceIte, Nat.reduceLT, Nat.reduceLeDiff, Nat.reduceEqDiff, Nat.reduceAdd, Nat.reduceSub, Nat.reduceDiv, Nat.reduceMod, Nat.reduceMul, Nat.reduceBEq, Nat.reduceBNe, reduceCtorEq, Int.reduceLT, Int.reduceLE, Int.reduceEq, Int.reduceNe, Int.reduceBEq, Int.reduceBNe, Int.reduceAdd, Int.reduceSub, Int.reduceNeg, Int.reduceToNat, hlt, lof_getD hx, hxm.1, hxm.2, bits_andNot8 hxm.2 hxm.1, hdl]
      rw [R6.take_succ_of hx, List.map_append]
      refine ⟨by simp; omega, by rw [InK_i64]; omega, rfl⟩
    · simp only [go_sem, ↓reduceIte, Nat.reduceLT, Nat.reduceLeDiff, Nat.reduceEqDiff, Nat.reduceAdd, Nat.reduceSub, Nat.reduceDiv, Nat.reduceMod, Nat.reduceMul, Nat.reduceBEq, Nat.reduceBNe, reduceCtorEq, Int.reduceLT, Int.reduceLE, Int.reduceEq, Int.reduceNe, Int.reduceBEq, Int.reduceBNe, Int.reduceAdd, Int.reduceSub, Int.reduceNeg, Int.reduceToNat, hlt]
      rw [take_all hk hlt]
      exact ex_le_refl rfl
  · simp only [go_sem, ↓reduceIte, Nat.reduceLT, Nat.reduceLeDiff, Nat.reduceEqDiff, Nat.reduceAdd, Nat.reduceSub, Nat.reduceDiv, Nat.reduceMod, Nat.reduceMul, Nat.reduceBEq, Nat.reduceBNe, reduceCtorEq, Int.reduceLT, Int.reduceLE, Int.reduceEq, Int.reduceNe, Int.reduceBEq, Int.reduceBNe, Int.reduceAdd, Int.reduceSub, Int.reduceNeg, Int.reduceToNat, show (R6.check n l != 0) = true by simp [h]]
    refine ex_le ?_
    rw [show R6.baseM n l = [] by simp [R6.baseM, h]]
    (repeat' (first | exact Le.refl _ | exact Le.nilS _ _ | exact Le.tight | refine Le.tuple ?_ | refine Le.list ?_ | refine Le.agg ?_ | refine LeL.cons ?_ ?_ | exact LeL.nil))
noncomputable def tab_Base6s : Tab := tabOf (fun p : (Int) × (List (List Int × List Int)) => match p with | (n, l) => [bookP n l]) (fun p : (Int) × (List (List Int × List Int)) => match p with | (n, l) => BkOK l) (fun p : (Int) × (List (List Int × List Int)) => match p with | (n, l) => .tuple [sents (R6.baseM n l), errP (R6.check n l)])
theorem tab_Base6s_eq (n : Int) (l : List (List Int × List Int)) : tab_Base6s [bookP n l] = some (BkOK l, .p (.tuple [sents (R6.baseM n l), errP (R6.check n l)])) := tabOf_eq (enc := fun p : (Int) × (List (List Int × List Int)) => match p with | (n, l) => [bookP n l]) (pre := fun p : (Int) × (List (List Int × List Int)) => match p with | (n, l) => BkOK l) (out := fun p : (Int) × (List (List Int × List Int)) => match p with | (n, l) => .tuple [sents (R6.baseM n l), errP (R6.check n l)]) (by rintro ⟨n, l⟩ ⟨n', l'⟩ h; simp at h; first | (simp [h]; done) | omega | (simp [h]; omega)) (n, l)
theorem tab_Base6s_ok : TabOK Tryd.prog 22 tab_Base6s := tabOf_ok (by rintro ⟨n, l⟩ h; exact Base6s_spec n l h)
noncomputable abbrev ent_Base6s : FuncId × List Nat × Tab := (22, [2], tab_Base6s)
attribute [go_sem] tab_Base6s_eq
theorem Needless6s_spec (n : Int) (l : List (List Int × List Int)) (hpre : BkOK l) : Ret Tryd.prog 17 [bookP n l] (.tuple [ints (R6.needM n l), errP (R6.check n l)]) := by
  refine fn_of (T := [ent_opened6, ent_follows8, ent_sub8]) (N := 42) (RO := [1, 4, 8, 38]) (CH := []) (KS := [0, 1, 2, 3, 4, 5, 6, 8, 15, 18, 19, 20, 21, 34]) (NS := [2, 6, 39]) (fun args w => Tryd.call17 args w) Tryd.func17 rfl rfl (by simp) mixed (by kernel_rfl) ⟨tab_opened6_ok, tab_follows8_ok, tab_sub8_ok, trivial⟩ ?_
  simp only [go_sem, ↓reduceIte, Nat.reduceLT, Nat.reduceLeDiff, Nat.reduceEqDiff, Nat.reduceAdd, Nat.reduceSub, Nat.reduceDiv, Nat.reduceMod, Nat.reduceMul, Nat.reduceBEq, Nat.reduceBNe, reduceCtorEq, Int.reduceLT, Int.reduceLE, Int.reduceEq, Int.reduceNe, Int.reduceBEq, Int.reduceBNe, Int.reduceAdd, Int.reduceSub, Int.reduceNeg, Int.reduceToNat]
  refine ⟨hpre, ?_⟩
  by_cases h : R6.check n l = 0
  · have hks := R6.knU_OK h
    have hA : R6.needM n l = ((R6.knU l l.length).filter (R6.spare (R6.knU l l.length))).map fun k => (k.2.2 : Int) := by simp [R6.needM, h]
    rw [hA, R6.openedM_ok h, h]
    generalize R6.knU l l.length = ks at *
    generalize hm : 2 ^ n.toNat - 1 = m at *
    simp only [go_sem, ↓reduceIte, Nat.reduceLT, Nat.reduceLeDiff, Nat.reduceEqDiff, Nat.reduceAdd, Nat.reduceSub, Nat.reduceDiv, Nat.reduceMod, Nat.reduceMul, Nat.reduceBEq, Nat.reduceBNe, reduceCtorEq, Int.reduceLT, Int.reduceLE, Int.reduceEq, Int.reduceNe, Int.reduceBEq, Int.reduceBNe, Int.reduceAdd, Int.reduceSub, Int.reduceNeg, Int.reduceToNat]
    have hl8 := hks.1
    refine vfor [4,6,18,19,20] [6] [.nilS 6 3 1] ks.length (fun _ => True) (fun k => ⟨[(4,.p (.ref [u8P m, knsP ks] 0)),(6,.sl 6),(18,.p (knsP ks)),(19,.p (natP ks.length)),(20,.p (natP k))], [(6, .vec 3 1 (lof intP (((ks.take k).filter (R6.spare ks)).map fun k => (k.2.2 : Int))))]⟩) (by first | rfl | (simp only [go_sem, ↓reduceIte, Nat.reduceLT, Nat.reduceLeDiff, Nat.reduceEqDiff, Nat.reduceAdd, Nat.reduceSub, Nat.reduceDiv, Nat.reduceMod, Nat.reduceMul, Nat.reduceBEq, Nat.reduceBNe, reduceCtorEq, Int.reduceLT, Int.reduceLE, Int.reduceEq, Int.reduceNe, Int.reduceBEq, Int.reduceBNe, Int.reduceAdd, Int.reduceSub, Int.reduceNeg, Int.reduceToNat, List.take_zero, List.filter_nil, List.map_nil]; first | done | rfl)) trivial ?_
    intro k hk _
    have hlen : ((ks.take k).filter (R6.spare ks)).length ≤ k := Nat.le_trans (List.length_filter_le _ _) (by simp; omega)
    by_cases hlt : k < ks.length
    · obtain ⟨x, hx⟩ := get_some hlt
      have hok := hks.2 x (List.mem_of_getElem? hx)
      have hfl := R6.fol_lt ks x.2.2 x.1
      by_cases hs : R6.sub x.2.1 (R6.fol ks x.2.2 x.1) = true
      · simp only [go_sem, ↓reduceIte, Nat.reduceLT, Nat.reduceLeDiff, Nat.reduceEqDiff, Nat.reduceAdd, Nat.reduceSub, Nat.reduceDiv, Nat.reduceMod, Nat.reduceMul, Nat.reduceBEq, Nat.reduceBNe, reduceCtorEq, Int.reduceLT, Int.reduceLE, Int.reduceEq, Int.reduceNe, Int.reduceBEq, Int.reduceBNe, Int.reduceAdd, Int.reduceSub, Int.reduceNeg, Int.reduceToNat, hlt, lof_getD hx, hs, hok.1, hok.2, hfl]
        rw [R6.take_succ_of hx, List.filter_append, List.map_append, show [x].filter (R6.spare ks) = [x] by simp [R6.spare, hs]]
        refine ⟨hks, by simp; omega, by rw [InK_i64]; omega, rfl⟩
      · rw [Bool.not_eq_true] at hs
        simp only [go_sem, ↓reduceIte, Nat.reduceLT, Nat.reduceLeDiff, Nat.reduceEqDiff, Nat.reduceAdd, Nat.reduceSub, Nat.reduceDiv, Nat.reduceMod, Nat.reduceMul, Nat.reduceBEq, Nat.reduceBNe, reduceCtorEq, Int.reduceLT, Int.reduceLE, Int.reduceEq, Int.reduceNe, Int.reduceBEq, Int.reduceBNe, Int.reduceAdd, Int.reduceSub, Int.reduceNeg, Int.reduceToNat, hlt, lof_getD hx, hs, hok.1, hok.2, hfl]
        rw [R6.take_succ_of hx, List.filter_append, List.map_append, show [x].filter (R6.spare ks) = [] by simp [R6.spare, hs], List.map_nil, List.append_nil]
        refine ⟨hks, by rw [InK_i64]; omega, rfl⟩
    · simp only [go_sem, ↓reduceIte, Nat.reduceLT, Nat.reduceLeDiff, Nat.reduceEqDiff, Nat.reduceAdd, Nat.reduceSub, Nat.reduceDiv, Nat.reduceMod, Nat.reduceMul, Nat.reduceBEq, Nat.reduceBNe, reduceCtorEq, Int.reduceLT, Int.reduceLE, Int.reduceEq, Int.reduceNe, Int.reduceBEq, Int.reduceBNe, Int.reduceAdd, Int.reduceSub, Int.reduceNeg, Int.reduceToNat, hlt]
      rw [take_all hk hlt]
      exact ex_le_refl rfl
  · simp only [go_sem, ↓reduceIte, Nat.reduceLT, Nat.reduceLeDiff, Nat.reduceEqDiff, Nat.reduceAdd, Nat.reduceSub, Nat.reduceDiv, Nat.reduceMod, Nat.reduceMul, Nat.reduceBEq, Nat.reduceBNe, reduceCtorEq, Int.reduceLT, Int.reduceLE, Int.reduceEq, Int.reduceNe, Int.reduceBEq, Int.reduceBNe, Int.reduceAdd, Int.reduceSub, Int.reduceNeg, Int.reduceToNat, show (R6.check n l != 0) = true by simp [h]]
    refine ex_le ?_
    rw [show R6.needM n l = [] by simp [R6.needM, h]]
    (repeat' (first | exact Le.refl _ | exact Le.nilS _ _ | exact Le.tight | refine Le.tuple ?_ | refine Le.list ?_ | refine Le.agg ?_ | refine LeL.cons ?_ ?_ | exact LeL.nil))
noncomputable def tab_Needless6s : Tab := tabOf (fun p : (Int) × (List (List Int × List Int)) => match p with | (n, l) => [bookP n l]) (fun p : (Int) × (List (List Int × List Int)) => match p with | (n, l) => BkOK l) (fun p : (Int) × (List (List Int × List Int)) => match p with | (n, l) => .tuple [ints (R6.needM n l), errP (R6.check n l)])
theorem tab_Needless6s_eq (n : Int) (l : List (List Int × List Int)) : tab_Needless6s [bookP n l] = some (BkOK l, .p (.tuple [ints (R6.needM n l), errP (R6.check n l)])) := tabOf_eq (enc := fun p : (Int) × (List (List Int × List Int)) => match p with | (n, l) => [bookP n l]) (pre := fun p : (Int) × (List (List Int × List Int)) => match p with | (n, l) => BkOK l) (out := fun p : (Int) × (List (List Int × List Int)) => match p with | (n, l) => .tuple [ints (R6.needM n l), errP (R6.check n l)]) (by rintro ⟨n, l⟩ ⟨n', l'⟩ h; simp at h; first | (simp [h]; done) | omega | (simp [h]; omega)) (n, l)
theorem tab_Needless6s_ok : TabOK Tryd.prog 17 tab_Needless6s := tabOf_ok (by rintro ⟨n, l⟩ h; exact Needless6s_spec n l h)
noncomputable abbrev ent_Needless6s : FuncId × List Nat × Tab := (17, [2], tab_Needless6s)
attribute [go_sem] tab_Needless6s_eq

theorem few1_spec (f : Nat) (m : Nat) (ks : List R6.Kn) (w : Nat) (hpre : R6.KnOK ks ∧ f < 256) : Ret Tryd.prog 58 [u8P f, .ref [u8P m, knsP ks] 0, .ref [u8P w] 0] (boolP (R6.fol ks (-1) f == w)) := by
  refine fn_of (T := [ent_follows8]) (N := 10) (RO := []) (CH := [4]) (KS := [0, 1, 2, 4]) (NS := []) (fun args w => Tryd.call58 args w) Tryd.func58 rfl rfl (by simp) mixed (by kernel_rfl) ⟨tab_follows8_ok, trivial⟩ ?_
  simp only [go_sem, ↓reduceIte, Nat.reduceLT, Nat.reduceLeDiff, Nat.reduceEqDiff, Nat.reduceAdd, Nat.reduceSub, Nat.reduceDiv, Nat.reduceMod, Nat.reduceMul, Nat.reduceBEq, Nat.reduceBNe, reduceCtorEq, Int.reduceLT, Int.reduceLE, Int.reduceEq, Int.reduceNe, Int.reduceBEq, Int.reduceBNe, Int.reduceAdd, Int.reduceSub, Int.reduceNeg, Int.reduceToNat]
  simp only [go_sem, ↓reduceIte, Nat.reduceLT, Nat.reduceLeDiff, Nat.reduceEqDiff, Nat.reduceAdd, Nat.reduceSub, Nat.reduceDiv, Nat.reduceMod, Nat.reduceMul, Nat.reduceBEq, Nat.reduceBNe, reduceCtorEq, Int.reduceLT, Int.reduceLE, Int.reduceEq, Int.reduceNe, Int.reduceBEq, Int.reduceBNe, Int.reduceAdd, Int.reduceSub, Int.reduceNeg, Int.reduceToNat, cast_beq]
  exact ⟨hpre, ex_le_refl rfl⟩
theorem few2_spec (a : Nat) (b : Nat) (hpre : a < 256 ∧ b < 256) : Ret Tryd.prog 60 [u8P a, u8P b] (intP ((R6.oc8 a : Int) - R6.oc8 b)) := by
  refine fn_of (T := [ent_oc8]) (N := 10) (RO := []) (CH := []) (KS := [0, 1, 4]) (NS := []) (fun args w => Tryd.call60 args w) Tryd.func60 rfl rfl (by simp) mixed (by kernel_rfl) ⟨tab_oc8_ok, trivial⟩ ?_
  simp only [go_sem, ↓reduceIte, Nat.reduceLT, Nat.reduceLeDiff, Nat.reduceEqDiff, Nat.reduceAdd, Nat.reduceSub, Nat.reduceDiv, Nat.reduceMod, Nat.reduceMul, Nat.reduceBEq, Nat.reduceBNe, reduceCtorEq, Int.reduceLT, Int.reduceLE, Int.reduceEq, Int.reduceNe, Int.reduceBEq, Int.reduceBNe, Int.reduceAdd, Int.reduceSub, Int.reduceNeg, Int.reduceToNat]
  have h1 := R6.oc8_le a
  have h2 := R6.oc8_le b
  exact ⟨hpre.1, hpre.2, by rw [InK_i64]; omega, ex_le_refl rfl⟩
theorem Fewest6s_spec (n : Int) (l : List (List Int × List Int)) (set : List Int) (hpre : BkOK l ∧ sz set.length) : Ret Tryd.prog 40 [bookP n l, ints set] (.tuple [ints (R6.fewM n l set), errP (R6.asked n l set)]) := by
  refine fn_of (T := [ent_asked6s, ent_follows8, ent_list8]) (N := 30) (RO := [2, 6, 9]) (CH := []) (KS := [0, 1, 2, 4, 5, 6, 7, 8, 9, 10, 19]) (NS := []) (fun args w => Tryd.call40 args w) Tryd.func40 rfl rfl (by simp) mixed (by kernel_rfl) ⟨tab_asked6s_ok, tab_follows8_ok, tab_list8_ok, trivial⟩ ?_
  simp only [go_sem, ↓reduceIte, Nat.reduceLT, Nat.reduceLeDiff, Nat.reduceEqDiff, Nat.reduceAdd, Nat.reduceSub, Nat.reduceDiv, Nat.reduceMod, Nat.reduceMul, Nat.reduceBEq, Nat.reduceBNe, reduceCtorEq, Int.reduceLT, Int.reduceLE, Int.reduceEq, Int.reduceNe, Int.reduceBEq, Int.reduceBNe, Int.reduceAdd, Int.reduceSub, Int.reduceNeg, Int.reduceToNat]
  refine ⟨hpre, ?_⟩
  have hlt := R6.askedM_lt n l set
  by_cases h : R6.asked n l set = 0
  · have hn := R6.asked_range h
    have h64 := R6.pow_le64 hn.2
    have hc := R6.asked_check h
    have hk : R6.KnOK (R6.openedM n l).2 := by rw [R6.openedM_ok hc]; exact R6.knU_OK hc
    have hm : (R6.openedM n l).1 < 64 := by rw [R6.openedM_ok hc]; simp only; omega
    have hf : R6.askedM n l set ≤ (R6.openedM n l).1 := by
      rw [R6.openedM_ok hc, R6.askedM, if_pos h]
      have := R6.maskOf_lt (R6.asked_ok h).2
      simp only; omega
    have hA : R6.fewM n l set = R6.lst (R6.minOf (R6.sortedM (R6.openedM n l).1 (fun f => R6.fol (R6.openedM n l).2 (-1) f == R6.fol (R6.openedM n l).2 (-1) (R6.askedM n l set)))) := by simp [R6.fewM, h]
    rw [hA, h]
    generalize (R6.openedM n l).2 = ks at *
    generalize (R6.openedM n l).1 = m at *
    generalize R6.askedM n l set = f at *
    simp only [go_sem, ↓reduceIte, Nat.reduceLT, Nat.reduceLeDiff, Nat.reduceEqDiff, Nat.reduceAdd, Nat.reduceSub, Nat.reduceDiv, Nat.reduceMod, Nat.reduceMul, Nat.reduceBEq, Nat.reduceBNe, reduceCtorEq, Int.reduceLT, Int.reduceLE, Int.reduceEq, Int.reduceNe, Int.reduceBEq, Int.reduceBNe, Int.reduceAdd, Int.reduceSub, Int.reduceNeg, Int.reduceToNat]
    refine ⟨⟨hk, by omega⟩, ?_⟩
    generalize hw : R6.fol ks (-1) f = w at *
    refine vret_pure (sortedF (p := fun f => R6.fol ks (-1) f == w) hm (fun f hf => few1_spec f m ks w ⟨hk, by omega⟩)) (by simp only [go_sem, seval]; first | done | rfl) (LeL.refl _) (by decide) ?_
    have hlen := R6.sortedM_length m (fun f => R6.fol ks (-1) f == w)
    have hmem : ∀ x ∈ R6.sortedM m (fun f => R6.fol ks (-1) f == w), x < 256 := fun x hx => by have := (R6.sortedM_mem.1 hx).1; omega
    have hin : f ∈ R6.sortedM m (fun f => R6.fol ks (-1) f == w) := R6.sortedM_mem.2 ⟨hf, by simp [hw]⟩
    generalize R6.sortedM m (fun f => R6.fol ks (-1) f == w) = fs at *
    obtain ⟨x0, rest, rfl⟩ : ∃ x0 rest, fs = x0 :: rest := by
      cases fs with
      | nil => simp at hin
      | cons a r => exact ⟨a, r, rfl⟩
    simp only [go_sem, ↓reduceIte, Nat.reduceLT, Nat.reduceLeDiff, Nat.reduceEqDiff, Nat.reduceAdd, Nat.reduceSub, Nat.reduceDiv, Nat.reduceMod, Nat.reduceMul, Nat.reduceBEq, Nat.reduceBNe, reduceCtorEq, Int.reduceLT, Int.reduceLE, Int.reduceEq, Int.reduceNe, Int.reduceBEq, Int.reduceBNe, Int.reduceAdd, Int.reduceSub, Int.reduceNeg, Int.reduceToNat]
    refine vret_pure (minFuncF (c := fun a b => (R6.oc8 a : Int) - R6.oc8 b) (l := x0 :: rest) (x0 := x0) (by unfold sz; omega) rfl (fun x hx y hy => few2_spec x y ⟨hmem x hx, hmem y hy⟩)) (by simp only [go_sem, seval]; first | done | rfl) (LeL.refl _) (by decide) ?_
    have hml : R6.minOf (x0 :: rest) < 256 := hmem _ (R6.minOf_mem x0 rest)
    rw [show ((x0 :: rest).drop 1).foldl (fun m x => if (R6.oc8 x : Int) - R6.oc8 m < 0 then x else m) x0 = R6.minOf (x0 :: rest) from rfl]
    simp only [go_sem, ↓reduceIte, Nat.reduceLT, Nat.reduceLeDiff, Nat.reduceEqDiff, Nat.reduceAdd, Nat.reduceSub, Nat.reduceDiv, Nat.reduceMod, Nat.reduceMul, Nat.reduceBEq, Nat.reduceBNe, reduceCtorEq, Int.reduceLT, Int.reduceLE, Int.reduceEq, Int.reduceNe, Int.reduceBEq, Int.reduceBNe, Int.reduceAdd, Int.reduceSub, Int.reduceNeg, Int.reduceToNat, hml]
    exact ex_le_refl rfl
  · simp only [go_sem, ↓reduceIte, Nat.reduceLT, Nat.reduceLeDiff, Nat.reduceEqDiff, Nat.reduceAdd, Nat.reduceSub, Nat.reduceDiv, Nat.reduceMod, Nat.reduceMul, Nat.reduceBEq, Nat.reduceBNe, reduceCtorEq, Int.reduceLT, Int.reduceLE, Int.reduceEq, Int.reduceNe, Int.reduceBEq, Int.reduceBNe, Int.reduceAdd, Int.reduceSub, Int.reduceNeg, Int.reduceToNat, show (R6.asked n l set != 0) = true by simp [h]]
    refine ex_le ?_
    rw [show R6.fewM n l set = [] by simp [R6.fewM, h]]
    (repeat' (first | exact Le.refl _ | exact Le.nilS _ _ | exact Le.tight | refine Le.tuple ?_ | refine Le.list ?_ | refine Le.agg ?_ | refine LeL.cons ?_ ?_ | exact LeL.nil))
noncomputable def tab_Fewest6s : Tab := tabOf (fun p : (Int) × (List (List Int × List Int)) × (List Int) => match p with | (n, l, set) => [bookP n l, ints set]) (fun p : (Int) × (List (List Int × List Int)) × (List Int) => match p with | (n, l, set) => BkOK l ∧ sz set.length) (fun p : (Int) × (List (List Int × List Int)) × (List Int) => match p with | (n, l, set) => .tuple [ints (R6.fewM n l set), errP (R6.asked n l set)])
theorem tab_Fewest6s_eq (n : Int) (l : List (List Int × List Int)) (set : List Int) : tab_Fewest6s [bookP n l, ints set] = some (BkOK l ∧ sz set.length, .p (.tuple [ints (R6.fewM n l set), errP (R6.asked n l set)])) := tabOf_eq (enc := fun p : (Int) × (List (List Int × List Int)) × (List Int) => match p with | (n, l, set) => [bookP n l, ints set]) (pre := fun p : (Int) × (List (List Int × List Int)) × (List Int) => match p with | (n, l, set) => BkOK l ∧ sz set.length) (out := fun p : (Int) × (List (List Int × List Int)) × (List Int) => match p with | (n, l, set) => .tuple [ints (R6.fewM n l set), errP (R6.asked n l set)]) (by rintro ⟨n, l, set⟩ ⟨n', l', set'⟩ h; simp at h; first | (simp [h]; done) | omega | (simp [h]; omega)) (n, l, set)
theorem tab_Fewest6s_ok : TabOK Tryd.prog 40 tab_Fewest6s := tabOf_ok (by rintro ⟨n, l, set⟩ h; exact Fewest6s_spec n l set h)
noncomputable abbrev ent_Fewest6s : FuncId × List Nat × Tab := (40, [2, 1], tab_Fewest6s)
attribute [go_sem] tab_Fewest6s_eq

theorem same11_spec (k1 : Nat) (k2 : Nat) (k3 : Nat) (m : Nat) (ks : List R6.Kn) (hpre : R6.KnOK ks ∧ k1 < 256 ∧ k2 < 256) : Ret Tryd.prog 33 [.agg [u8P k1, u8P k2, natP k3], .ref [u8P m, knsP ks] 0] (boolP (!R6.sub k2 (R6.fol ks (-1) k1))) := by
  refine fn_of (T := [ent_follows8, ent_sub8]) (N := 14) (RO := [2]) (CH := [3]) (KS := [0, 1, 2, 3]) (NS := []) (fun args w => Tryd.call33 args w) Tryd.func33 rfl rfl (by simp) mixed (by kernel_rfl) ⟨tab_follows8_ok, tab_sub8_ok, trivial⟩ ?_
  simp only [go_sem, ↓reduceIte, Nat.reduceLT, Nat.reduceLeDiff, Nat.reduceEqDiff, Nat.reduceAdd, Nat.reduceSub, Nat.reduceDiv, Nat.reduceMod, Nat.reduceMul, Nat.reduceBEq, Nat.reduceBNe, reduceCtorEq, Int.reduceLT, Int.reduceLE, Int.reduceEq, Int.reduceNe, Int.reduceBEq, Int.reduceBNe, Int.reduceAdd, Int.reduceSub, Int.reduceNeg, Int.reduceToNat]
  have hfl := R6.fol_lt ks (-1) k1
  simp only [go_sem, ↓reduceIte, Nat.reduceLT, Nat.reduceLeDiff, Nat.reduceEqDiff, Nat.reduceAdd, Nat.reduceSub, Nat.reduceDiv, Nat.reduceMod, Nat.reduceMul, Nat.reduceBEq, Nat.reduceBNe, reduceCtorEq, Int.reduceLT, Int.reduceLE, Int.reduceEq, Int.reduceNe, Int.reduceBEq, Int.reduceBNe, Int.reduceAdd, Int.reduceSub, Int.reduceNeg, Int.reduceToNat, hfl, hpre.2.1, hpre.2.2]
  exact ⟨hpre.1, ex_le_refl rfl⟩
theorem same1_spec (m : Nat) (ks : List R6.Kn) (j : Nat) (ls : List R6.Kn) (hpre : R6.KnOK ks ∧ R6.KnOK ls) : Ret Tryd.prog 31 [innerP m ks, innerP j ls] (boolP (R6.sayAll ks ls)) := by
  refine fn_of (T := []) (N := 10) (RO := [2, 3]) (CH := []) (KS := [0, 1, 2, 3, 4]) (NS := []) (fun args w => Tryd.call31 args w) Tryd.func31 rfl rfl (by simp) mixed (by kernel_rfl) trivial ?_
  simp only [go_sem, ↓reduceIte, Nat.reduceLT, Nat.reduceLeDiff, Nat.reduceEqDiff, Nat.reduceAdd, Nat.reduceSub, Nat.reduceDiv, Nat.reduceMod, Nat.reduceMul, Nat.reduceBEq, Nat.reduceBNe, reduceCtorEq, Int.reduceLT, Int.reduceLE, Int.reduceEq, Int.reduceNe, Int.reduceBEq, Int.reduceBNe, Int.reduceAdd, Int.reduceSub, Int.reduceNeg, Int.reduceToNat]
  have hl8 := hpre.2.1
  refine vret_pure (containsFuncK (p := fun s => !R6.sub s.2.1 (R6.fol ks (-1) s.1)) (l := ls) (by unfold sz; omega) (fun k hk => same11_spec k.1 k.2.1 k.2.2 m ks ⟨hpre.1, hpre.2.2 k hk⟩)) (by simp only [go_sem, seval]; first | done | rfl) (LeL.refl _) (by decide) ?_
  simp only [go_sem, ↓reduceIte, Nat.reduceLT, Nat.reduceLeDiff, Nat.reduceEqDiff, Nat.reduceAdd, Nat.reduceSub, Nat.reduceDiv, Nat.reduceMod, Nat.reduceMul, Nat.reduceBEq, Nat.reduceBNe, reduceCtorEq, Int.reduceLT, Int.reduceLE, Int.reduceEq, Int.reduceNe, Int.reduceBEq, Int.reduceBNe, Int.reduceAdd, Int.reduceSub, Int.reduceNeg, Int.reduceToNat]
  exact ex_le_refl rfl
noncomputable def tab_same1 : Tab := tabOf (fun p : (Nat) × (List R6.Kn) × (Nat) × (List R6.Kn) => match p with | (m, ks, j, ls) => [innerP m ks, innerP j ls]) (fun p : (Nat) × (List R6.Kn) × (Nat) × (List R6.Kn) => match p with | (m, ks, j, ls) => R6.KnOK ks ∧ R6.KnOK ls) (fun p : (Nat) × (List R6.Kn) × (Nat) × (List R6.Kn) => match p with | (m, ks, j, ls) => boolP (R6.sayAll ks ls))
theorem tab_same1_eq (m : Nat) (ks : List R6.Kn) (j : Nat) (ls : List R6.Kn) : tab_same1 [innerP m ks, innerP j ls] = some (R6.KnOK ks ∧ R6.KnOK ls, .p (boolP (R6.sayAll ks ls))) := tabOf_eq (enc := fun p : (Nat) × (List R6.Kn) × (Nat) × (List R6.Kn) => match p with | (m, ks, j, ls) => [innerP m ks, innerP j ls]) (pre := fun p : (Nat) × (List R6.Kn) × (Nat) × (List R6.Kn) => match p with | (m, ks, j, ls) => R6.KnOK ks ∧ R6.KnOK ls) (out := fun p : (Nat) × (List R6.Kn) × (Nat) × (List R6.Kn) => match p with | (m, ks, j, ls) => boolP (R6.sayAll ks ls)) (by rintro ⟨m, ks, j, ls⟩ ⟨m', ks', j', ls'⟩ h; simp at h; first | (simp [h]; done) | omega | (simp [h]; omega)) (m, ks, j, ls)
theorem tab_same1_ok : TabOK Tryd.prog 31 tab_same1 := tabOf_ok (by rintro ⟨m, ks, j, ls⟩ h; exact same1_spec m ks j ls h)
noncomputable abbrev ent_same1 : FuncId × List Nat × Tab := (31, [3, 3], tab_same1)
attribute [go_sem] tab_same1_eq

theorem Same6s_spec (n : Int) (a : List (List Int × List Int)) (m : Int) (b : List (List Int × List Int)) (hpre : BkOK a ∧ BkOK b) : Ret Tryd.prog 16 [bookP n a, bookP m b] (.tuple [boolP (R6.sameM n a m b), errP (R6.sameErr n a m b)]) := by
  refine fn_of (T := [ent_opened6, ent_same1]) (N := 43) (RO := [2, 3, 6, 8]) (CH := []) (KS := [0, 1, 2, 3, 4, 5, 6, 7, 8, 9, 16, 23, 27]) (NS := []) (fun args w => Tryd.call16 args w) Tryd.func16 rfl rfl (by simp) mixed (by kernel_rfl) ⟨tab_opened6_ok, tab_same1_ok, trivial⟩ ?_
  simp only [go_sem, ↓reduceIte, Nat.reduceLT, Nat.reduceLeDiff, Nat.reduceEqDiff, Nat.reduceAdd, Nat.reduceSub, Nat.reduceDiv, Nat.reduceMod, Nat.reduceMul, Nat.reduceBEq, Nat.reduceBNe, reduceCtorEq, Int.reduceLT, Int.reduceLE, Int.reduceEq, Int.reduceNe, Int.reduceBEq, Int.reduceBNe, Int.reduceAdd, Int.reduceSub, Int.reduceNeg, Int.reduceToNat]
  refine ⟨hpre.1, ?_⟩
  by_cases h1 : R6.check n a = 0
  · have k1 : R6.KnOK (R6.openedM n a).2 := by rw [R6.openedM_ok h1]; exact R6.knU_OK h1
    simp only [go_sem, ↓reduceIte, Nat.reduceLT, Nat.reduceLeDiff, Nat.reduceEqDiff, Nat.reduceAdd, Nat.reduceSub, Nat.reduceDiv, Nat.reduceMod, Nat.reduceMul, Nat.reduceBEq, Nat.reduceBNe, reduceCtorEq, Int.reduceLT, Int.reduceLE, Int.reduceEq, Int.reduceNe, Int.reduceBEq, Int.reduceBNe, Int.reduceAdd, Int.reduceSub, Int.reduceNeg, Int.reduceToNat, h1]
    refine ⟨hpre.2, ?_⟩
    by_cases h2 : R6.check m b = 0
    · have k2 : R6.KnOK (R6.openedM m b).2 := by rw [R6.openedM_ok h2]; exact R6.knU_OK h2
      simp only [go_sem, ↓reduceIte, Nat.reduceLT, Nat.reduceLeDiff, Nat.reduceEqDiff, Nat.reduceAdd, Nat.reduceSub, Nat.reduceDiv, Nat.reduceMod, Nat.reduceMul, Nat.reduceBEq, Nat.reduceBNe, reduceCtorEq, Int.reduceLT, Int.reduceLE, Int.reduceEq, Int.reduceNe, Int.reduceBEq, Int.reduceBNe, Int.reduceAdd, Int.reduceSub, Int.reduceNeg, Int.reduceToNat, h2]
      by_cases h3 : n = m
      · subst h3
        have e1 : R6.sameErr n a n b = 0 := by simp [R6.sameErr, h1, h2]
        have e2 : R6.sameM n a n b = (R6.sayAll (R6.openedM n a).2 (R6.openedM n b).2 && R6.sayAll (R6.openedM n b).2 (R6.openedM n a).2) := by simp [R6.sameM, e1]
        rw [e1, e2]
        by_cases h4 : R6.sayAll (R6.openedM n a).2 (R6.openedM n b).2 = true
        · simp only [go_sem, ↓reduceIte, Nat.reduceLT, Nat.reduceLeDiff, Nat.reduceEqDiff, Nat.reduceAdd, Nat.reduceSub, Nat.reduceDiv, Nat.reduceMod, Nat.reduceMul, Nat.reduceBEq, Nat.reduceBNe, reduceCtorEq, Int.reduceLT, Int.reduceLE, Int.reduceEq, Int.reduceNe, Int.reduceBEq, Int.reduceBNe, Int.reduceAdd, Int.reduceSub, Int.reduceNeg, Int.reduceToNat, h4]
          exact ⟨⟨k1, k2⟩, ⟨k2, k1⟩, ex_le_refl (by simp)⟩
        · rw [Bool.not_eq_true] at h4
          simp only [go_sem, ↓reduceIte, Nat.reduceLT, Nat.reduceLeDiff, Nat.reduceEqDiff, Nat.reduceAdd, Nat.reduceSub, Nat.reduceDiv, Nat.reduceMod, Nat.reduceMul, Nat.reduceBEq, Nat.reduceBNe, reduceCtorEq, Int.reduceLT, Int.reduceLE, Int.reduceEq, Int.reduceNe, Int.reduceBEq, Int.reduceBNe, Int.reduceAdd, Int.reduceSub, Int.reduceNeg, Int.reduceToNat, h4]
          exact ⟨⟨k1, k2⟩, ex_le_refl (by simp)⟩
      · simp only [go_sem, ↓reduceIte, Nat.reduceLT, Nat.reduceLeDiff, Nat.reduceEqDiff, Nat.reduceAdd, Nat.reduceSub, Nat.reduceDiv, Nat.reduceMod, Nat.reduceMul, Nat.reduceBEq, Nat.reduceBNe, reduceCtorEq, Int.reduceLT, Int.reduceLE, Int.reduceEq, Int.reduceNe, Int.reduceBEq, Int.reduceBNe, Int.reduceAdd, Int.reduceSub, Int.reduceNeg, Int.reduceToNat, show (n != m) = true by simp [h3]]
        have e1 : R6.sameErr n a m b = 5 := by simp [R6.sameErr, h1, h2, h3]
        exact ex_le_refl (by rw [e1]; simp [R6.sameM, e1])
    · simp only [go_sem, ↓reduceIte, Nat.reduceLT, Nat.reduceLeDiff, Nat.reduceEqDiff, Nat.reduceAdd, Nat.reduceSub, Nat.reduceDiv, Nat.reduceMod, Nat.reduceMul, Nat.reduceBEq, Nat.reduceBNe, reduceCtorEq, Int.reduceLT, Int.reduceLE, Int.reduceEq, Int.reduceNe, Int.reduceBEq, Int.reduceBNe, Int.reduceAdd, Int.reduceSub, Int.reduceNeg, Int.reduceToNat, show (R6.check m b != 0) = true by simp [h2]]
      have e1 : R6.sameErr n a m b = R6.check m b := by simp [R6.sameErr, h1, h2]
      exact ex_le_refl (by rw [e1]; simp [R6.sameM, e1, h2])
  · simp only [go_sem, ↓reduceIte, Nat.reduceLT, Nat.reduceLeDiff, Nat.reduceEqDiff, Nat.reduceAdd, Nat.reduceSub, Nat.reduceDiv, Nat.reduceMod, Nat.reduceMul, Nat.reduceBEq, Nat.reduceBNe, reduceCtorEq, Int.reduceLT, Int.reduceLE, Int.reduceEq, Int.reduceNe, Int.reduceBEq, Int.reduceBNe, Int.reduceAdd, Int.reduceSub, Int.reduceNeg, Int.reduceToNat, show (R6.check n a != 0) = true by simp [h1]]
    have e1 : R6.sameErr n a m b = R6.check n a := by simp [R6.sameErr, h1]
    exact ex_le_refl (by rw [e1]; simp [R6.sameM, e1, h1])
noncomputable def tab_Same6s : Tab := tabOf (fun p : (Int) × (List (List Int × List Int)) × (Int) × (List (List Int × List Int)) => match p with | (n, a, m, b) => [bookP n a, bookP m b]) (fun p : (Int) × (List (List Int × List Int)) × (Int) × (List (List Int × List Int)) => match p with | (n, a, m, b) => BkOK a ∧ BkOK b) (fun p : (Int) × (List (List Int × List Int)) × (Int) × (List (List Int × List Int)) => match p with | (n, a, m, b) => .tuple [boolP (R6.sameM n a m b), errP (R6.sameErr n a m b)])
theorem tab_Same6s_eq (n : Int) (a : List (List Int × List Int)) (m : Int) (b : List (List Int × List Int)) : tab_Same6s [bookP n a, bookP m b] = some (BkOK a ∧ BkOK b, .p (.tuple [boolP (R6.sameM n a m b), errP (R6.sameErr n a m b)])) := tabOf_eq (enc := fun p : (Int) × (List (List Int × List Int)) × (Int) × (List (List Int × List Int)) => match p with | (n, a, m, b) => [bookP n a, bookP m b]) (pre := fun p : (Int) × (List (List Int × List Int)) × (Int) × (List (List Int × List Int)) => match p with | (n, a, m, b) => BkOK a ∧ BkOK b) (out := fun p : (Int) × (List (List Int × List Int)) × (Int) × (List (List Int × List Int)) => match p with | (n, a, m, b) => .tuple [boolP (R6.sameM n a m b), errP (R6.sameErr n a m b)]) (by rintro ⟨n, a, m, b⟩ ⟨n', a', m', b'⟩ h; simp at h; first | (simp [h]; done) | omega | (simp [h]; omega)) (n, a, m, b)
theorem tab_Same6s_ok : TabOK Tryd.prog 16 tab_Same6s := tabOf_ok (by rintro ⟨n, a, m, b⟩ h; exact Same6s_spec n a m b h)
noncomputable abbrev ent_Same6s : FuncId × List Nat × Tab := (16, [2, 2], tab_Same6s)
attribute [go_sem] tab_Same6s_eq

theorem Open6s_spec (n : Int) (l : List (List Int × List Int)) (set : List Int) (hpre : BkOK l ∧ sz set.length) : Ret Tryd.prog 41 [bookP n l, ints set] (.tuple [boolP (R6.openM n l set), errP (R6.asked n l set)]) := by
  refine fn_of (T := [ent_asked6s, ent_follows8, ent_opens6, ent_containsB]) (N := 29) (RO := [2, 6]) (CH := [4, 5, 20, 26]) (KS := [0, 1, 2, 4, 5, 6, 7, 8]) (NS := [20]) (fun args w => Tryd.call41 args w) Tryd.func41 rfl rfl (by simp) mixed (by kernel_rfl) ⟨tab_asked6s_ok, tab_follows8_ok, tab_opens6_ok, tab_containsB_ok, trivial⟩ ?_
  simp only [go_sem, ↓reduceIte, Nat.reduceLT, Nat.reduceLeDiff, Nat.reduceEqDiff, Nat.reduceAdd, Nat.reduceSub, Nat.reduceDiv, Nat.reduceMod, Nat.reduceMul, Nat.reduceBEq, Nat.reduceBNe, reduceCtorEq, Int.reduceLT, Int.reduceLE, Int.reduceEq, Int.reduceNe, Int.reduceBEq, Int.reduceBNe, Int.reduceAdd, Int.reduceSub, Int.reduceNeg, Int.reduceToNat]
  refine ⟨hpre, ?_⟩
  have hlt := R6.askedM_lt n l set
  by_cases h : R6.asked n l set = 0
  · have hn := R6.asked_range h
    have h64 := R6.pow_le64 hn.2
    have hc := R6.asked_check h
    have hk : R6.KnOK (R6.openedM n l).2 := by rw [R6.openedM_ok hc]; exact R6.knU_OK hc
    have hm : (R6.openedM n l).1 < 64 := by rw [R6.openedM_ok hc]; simp only; omega
    have hol := R6.opensM_length (R6.openedM n l).1 (R6.openedM n l).2 hm
    simp only [go_sem, ↓reduceIte, Nat.reduceLT, Nat.reduceLeDiff, Nat.reduceEqDiff, Nat.reduceAdd, Nat.reduceSub, Nat.reduceDiv, Nat.reduceMod, Nat.reduceMul, Nat.reduceBEq, Nat.reduceBNe, reduceCtorEq, Int.reduceLT, Int.reduceLE, Int.reduceEq, Int.reduceNe, Int.reduceBEq, Int.reduceBNe, Int.reduceAdd, Int.reduceSub, Int.reduceNeg, Int.reduceToNat, h]
    exact ⟨⟨hk, hm⟩, ⟨hk, by omega⟩, by unfold sz; omega, ex_le_refl (by simp [R6.openM, h])⟩
  · simp only [go_sem, ↓reduceIte, Nat.reduceLT, Nat.reduceLeDiff, Nat.reduceEqDiff, Nat.reduceAdd, Nat.reduceSub, Nat.reduceDiv, Nat.reduceMod, Nat.reduceMul, Nat.reduceBEq, Nat.reduceBNe, reduceCtorEq, Int.reduceLT, Int.reduceLE, Int.reduceEq, Int.reduceNe, Int.reduceBEq, Int.reduceBNe, Int.reduceAdd, Int.reduceSub, Int.reduceNeg, Int.reduceToNat, show (R6.asked n l set == 0) = false by simp [h]]
    exact ex_le_refl (by simp [R6.openM, h])
noncomputable def tab_Open6s : Tab := tabOf (fun p : (Int) × (List (List Int × List Int)) × (List Int) => match p with | (n, l, set) => [bookP n l, ints set]) (fun p : (Int) × (List (List Int × List Int)) × (List Int) => match p with | (n, l, set) => BkOK l ∧ sz set.length) (fun p : (Int) × (List (List Int × List Int)) × (List Int) => match p with | (n, l, set) => .tuple [boolP (R6.openM n l set), errP (R6.asked n l set)])
theorem tab_Open6s_eq (n : Int) (l : List (List Int × List Int)) (set : List Int) : tab_Open6s [bookP n l, ints set] = some (BkOK l ∧ sz set.length, .p (.tuple [boolP (R6.openM n l set), errP (R6.asked n l set)])) := tabOf_eq (enc := fun p : (Int) × (List (List Int × List Int)) × (List Int) => match p with | (n, l, set) => [bookP n l, ints set]) (pre := fun p : (Int) × (List (List Int × List Int)) × (List Int) => match p with | (n, l, set) => BkOK l ∧ sz set.length) (out := fun p : (Int) × (List (List Int × List Int)) × (List Int) => match p with | (n, l, set) => .tuple [boolP (R6.openM n l set), errP (R6.asked n l set)]) (by rintro ⟨n, l, set⟩ ⟨n', l', set'⟩ h; simp at h; first | (simp [h]; done) | omega | (simp [h]; omega)) (n, l, set)
theorem tab_Open6s_ok : TabOK Tryd.prog 41 tab_Open6s := tabOf_ok (by rintro ⟨n, l, set⟩ h; exact Open6s_spec n l set h)
noncomputable abbrev ent_Open6s : FuncId × List Nat × Tab := (41, [2, 1], tab_Open6s)
attribute [go_sem] tab_Open6s_eq
end Go.V
