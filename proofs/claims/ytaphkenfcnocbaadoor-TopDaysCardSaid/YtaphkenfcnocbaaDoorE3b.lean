/-
  Contracts of chapter 03: plans that are read. Conditions: none.
-/
import Derived.Test.YtaphkenfcnocbaaDoorE3a
import Derived.Test.YtaphkenfcnocbaaDoorVTup
set_option linter.unusedVariables false
set_option linter.unusedSimpArgs false
set_option linter.deprecated false
namespace Go.V
open Go.Proofs
set_option maxRecDepth 100000
set_option maxHeartbeats 4000000

abbrev rowsN (L : List (List Nat)) : PV := lists (L.map ofN)
theorem rowsN_get {L : List (List Nat)} {k : Nat} {l : List Nat} (h : L[k]? = some l) : (lof ints (L.map ofN)).getD k default = ints (ofN l) := lof_getD (by rw [List.getElem?_map, h]; rfl)

theorem opened_spec {n wide : Nat} {L : List (List Nat)} {r : R3.Tab} (hr : R3.opened n L wide = some r) : FnO Tryd.prog 49 [.p (natP n), .p (rowsN L), .p (natP wide)] [] (fun x H => x = .tup [.ptr 1008 0, .p (errP 0)] ∧ H = [(1008, tabO r)]) := by
  refine fnT_of (T := []) [1008] [] (N := 88) (RO := []) (CH := []) (KS := [0, 1, 2, 6, 7, 8, 9, 10, 11, 12, 13, 20, 27, 28, 29, 30, 42, 43, 44, 45, 46, 50, 58, 69]) (NS := [1008]) (fun args w => Tryd.call49 args w) Tryd.func49 rfl rfl (by simp) mixed (by kernel_rfl) trivial (by decide) ?_
  unfold R3.opened at hr
  split at hr
  case isFalse => simp at hr
  rename_i hc
  obtain ⟨h1, h5, hL⟩ := hc
  simp only [go_sem, ↓reduceIte, Nat.reduceLT, Nat.reduceLeDiff, Nat.reduceEqDiff, Nat.reduceAdd, Nat.reduceSub, Nat.reduceDiv, Nat.reduceMod, Nat.reduceMul, Nat.reduceBEq, Nat.reduceBNe, reduceCtorEq, Int.reduceLT, Int.reduceLE, Int.reduceEq, Int.reduceNe, Int.reduceBEq, Int.reduceBNe, Int.reduceAdd, Int.reduceSub, Int.reduceNeg, Int.reduceToNat, show ¬ (n : Int) < 1 by omega, show ¬ (5 : Int) < (n : Int) by omega, lof_length, List.length_map, show ¬ (n : Int) < (L.length : Int) by omega]
  refine vcallO [] 1000 (begun_spec h5) (by first | rfl | (simp only [go_sem, seval, AV.mapN, AV.mapNL, Ob.mapN, mapNL_p, cnx, canH, canH.canH1, lowE, lowH, lowL, lowN, AV.allN, AV.allNL, Ob.allN, allNL_p, okNm, okKey, okH, bkp, bk, bkH, lof_snoc_int, List.getD_cons_zero, List.getD_cons_succ]; first | done | rfl) | (simp [AV.mapN, AV.mapNL, Ob.mapN, mapNL_p, cnx, canH, canH.canH1, St.h, lowE, lowH, lowL, lowN, AV.allN, AV.allNL, Ob.allN, allNL_p, okNm, okKey, okH, bkp, bk, bkH]; done)) (by first | rfl | (simp only [go_sem, seval, AV.mapN, AV.mapNL, Ob.mapN, mapNL_p, cnx, canH, canH.canH1, lowE, lowH, lowL, lowN, AV.allN, AV.allNL, Ob.allN, allNL_p, okNm, okKey, okH, bkp, bk, bkH, lof_snoc_int, List.getD_cons_zero, List.getD_cons_succ]; first | done | rfl) | (simp [AV.mapN, AV.mapNL, Ob.mapN, mapNL_p, cnx, canH, canH.canH1, St.h, lowE, lowH, lowL, lowN, AV.allN, AV.allNL, Ob.allN, allNL_p, okNm, okKey, okH, bkp, bk, bkH]; done)) (by decide) (by first | rfl | (simp only [go_sem, seval, AV.mapN, AV.mapNL, Ob.mapN, mapNL_p, cnx, canH, canH.canH1, lowE, lowH, lowL, lowN, AV.allN, AV.allNL, Ob.allN, allNL_p, okNm, okKey, okH, bkp, bk, bkH, lof_snoc_int, List.getD_cons_zero, List.getD_cons_succ]; first | done | rfl) | (simp [AV.mapN, AV.mapNL, Ob.mapN, mapNL_p, cnx, canH, canH.canH1, St.h, lowE, lowH, lowL, lowN, AV.allN, AV.allNL, Ob.allN, allNL_p, okNm, okKey, okH, bkp, bk, bkH]; done)) ?_
  rintro x H' ⟨rfl, rfl⟩
  refine ⟨(by first | rfl | (simp only [go_sem, seval, AV.mapN, AV.mapNL, Ob.mapN, mapNL_p, cnx, canH, canH.canH1, lowE, lowH, lowL, lowN, AV.allN, AV.allNL, Ob.allN, allNL_p, okNm, okKey, okH, bkp, bk, bkH, lof_snoc_int, List.getD_cons_zero, List.getD_cons_succ]; first | done | rfl) | (simp [AV.mapN, AV.mapNL, Ob.mapN, mapNL_p, cnx, canH, canH.canH1, St.h, lowE, lowH, lowL, lowN, AV.allN, AV.allNL, Ob.allN, allNL_p, okNm, okKey, okH, bkp, bk, bkH]; done)), ?_⟩
  simp only [go_sem, ↓reduceIte, Nat.reduceLT, Nat.reduceLeDiff, Nat.reduceEqDiff, Nat.reduceAdd, Nat.reduceSub, Nat.reduceDiv, Nat.reduceMod, Nat.reduceMul, Nat.reduceBEq, Nat.reduceBNe, reduceCtorEq, Int.reduceLT, Int.reduceLE, Int.reduceEq, Int.reduceNe, Int.reduceBEq, Int.reduceBNe, Int.reduceAdd, Int.reduceSub, Int.reduceNeg, Int.reduceToNat, St.back, AV.mapN, AV.mapNL, Ob.mapN, mapNL_p, bk, bkp, bkH]
  refine vfor [0,2,8,27,28,29] [1008] [] L.length (fun k => R3.openR n wide k (L.drop k) (R3.allT n L k) = some r ∧ R3.Ok (R3.allT n L k) ∧ (R3.allT n L k).n = n) (fun k => ⟨[(0,.p (natP n)),(2,.p (natP wide)),(8,.ptr 1008 0),(27,.p (rowsN L)),(28,.p (natP L.length)),(29,.p (natP k))], [(1008,tabO (R3.allT n L k))]⟩) (by first | rfl | (simp only [go_sem, ↓reduceIte, Nat.reduceLT, Nat.reduceLeDiff, Nat.reduceEqDiff, Nat.reduceAdd, Nat.reduceSub, Nat.reduceDiv, Nat.reduceMod, Nat.reduceMul, Nat.reduceBEq, Nat.reduceBNe, reduceCtorEq, Int.reduceLT, Int.reduceLE, Int.reduceEq, Int.reduceNe, Int.reduceBEq, Int.reduceBNe, Int.reduceAdd, Int.reduceSub, Int.reduceNeg, Int.reduceToNat, lof_length, List.length_map]; first | done | rfl)) ⟨hr, R3.begun_ok h5, rfl⟩ ?_
  rintro k hk ⟨hI, ok, hn⟩
  by_cases hlt : k < L.length
  · obtain ⟨l, hl⟩ := get_some hlt
    rw [List.drop_eq_getElem_cons hlt, show L[k] = l from (List.getElem_eq_iff hlt).2 hl] at hI
    obtain ⟨i1, i2, t', i3, i4⟩ := R3.openR_cons hI
    subst i1
    have hld : L.getD k [] = l := by rw [List.getD_eq_getElem?_getD, hl]; rfl
    simp only [go_sem, ↓reduceIte, Nat.reduceLT, Nat.reduceLeDiff, Nat.reduceEqDiff, Nat.reduceAdd, Nat.reduceSub, Nat.reduceDiv, Nat.reduceMod, Nat.reduceMul, Nat.reduceBEq, Nat.reduceBNe, reduceCtorEq, Int.reduceLT, Int.reduceLE, Int.reduceEq, Int.reduceNe, Int.reduceBEq, Int.reduceBNe, Int.reduceAdd, Int.reduceSub, Int.reduceNeg, Int.reduceToNat, hlt, rowsN_get hl, lof_length, List.length_map, ofN_length, bne_self_eq_false, show ¬ (n : Int) < (l.length : Int) by omega]
    refine vfor [0,2,8,9,10,27,28,29,43,44,45] [1008] [] l.length (fun j => R3.openD n k j (l.drop j) (R3.rowT k l (R3.allT n L k) j) = some t' ∧ R3.Ok (R3.rowT k l (R3.allT n L k) j) ∧ (R3.rowT k l (R3.allT n L k) j).n = n) (fun j => ⟨[(0,.p (natP n)),(2,.p (natP l.length)),(8,.ptr 1008 0),(9,.p (natP k)),(10,.p (ints (ofN l))),(27,.p (rowsN L)),(28,.p (natP L.length)),(29,.p (natP k)),(43,.p (ints (ofN l))),(44,.p (natP l.length)),(45,.p (natP j))], [(1008,tabO (R3.rowT k l (R3.allT n L k) j))]⟩) (by first | rfl | (simp only [go_sem, ↓reduceIte, Nat.reduceLT, Nat.reduceLeDiff, Nat.reduceEqDiff, Nat.reduceAdd, Nat.reduceSub, Nat.reduceDiv, Nat.reduceMod, Nat.reduceMul, Nat.reduceBEq, Nat.reduceBNe, reduceCtorEq, Int.reduceLT, Int.reduceLE, Int.reduceEq, Int.reduceNe, Int.reduceBEq, Int.reduceBNe, Int.reduceAdd, Int.reduceSub, Int.reduceNeg, Int.reduceToNat, lof_length, List.length_map, ofN_length]; first | done | rfl)) ⟨i3, ok, hn⟩ ?_
    rintro j hj ⟨jI, jok, jn⟩
    have hl36 := tabP_length jok
    by_cases hjl : j < l.length
    · obtain ⟨s, hs⟩ := get_some hjl
      rw [List.drop_eq_getElem_cons hjl, show l[j] = s from (List.getElem_eq_iff hjl).2 hs] at jI
      obtain ⟨⟨j1, j2, j3⟩, j4⟩ := R3.openD_cons jI
      have hsd : l.getD j 0 = s := by rw [List.getD_eq_getElem?_getD, hs]; rfl
      have q2 : 26 + k * 1 < 36 := by omega
      have q3 : 31 + j * 1 < 36 := by omega
      have g2 := tabP_bc jok (c := k) (by omega)
      have g3 := tabP_od jok (d := j) (by omega)
      generalize hT : R3.rowT k l (R3.allT n L k) j = T at *
      have hb := R3.getD_lt jok.b k
      have ho := R3.getD_lt jok.o j
      have b2 : bits .and .u64 (((T.bc.getD k 0 : Nat) : Int) / 2 ^ s) 1 = 0 := by have := shr_and (T.bc.getD k 0) s 1 (by omega) (by decide); rw [j2] at this; exact this
      have b3 : bits .and .u64 (((T.od.getD j 0 : Nat) : Int) / 2 ^ s) 1 = 0 := by have := shr_and (T.od.getD j 0) s 1 (by omega) (by decide); rw [j3] at this; exact this
      simp only [go_sem, ↓reduceIte, Nat.reduceLT, Nat.reduceLeDiff, Nat.reduceEqDiff, Nat.reduceAdd, Nat.reduceSub, Nat.reduceDiv, Nat.reduceMod, Nat.reduceMul, Nat.reduceBEq, Nat.reduceBNe, reduceCtorEq, Int.reduceLT, Int.reduceLE, Int.reduceEq, Int.reduceNe, Int.reduceBEq, Int.reduceBNe, Int.reduceAdd, Int.reduceSub, Int.reduceNeg, Int.reduceToNat, hjl, lof_getD (ofN_get hs), show ¬ (n : Int) ≤ (s : Int) by omega, hl36, q2, q3, g2, g3, Int.toNat_natCast, show ¬ (s : Int) < 0 by omega, show (k : Int) < 5 by omega, show (j : Int) < 5 by omega, show s ≤ 64 by omega, b2, b3]
      refine vcallO [1008] 10000 (put_spec jok (c := k) (d := j) (s := s) (by omega) (by omega) (by omega)) (by first | rfl | (simp only [go_sem, seval, AV.mapN, AV.mapNL, Ob.mapN, mapNL_p, cnx, canH, canH.canH1, lowE, lowH, lowL, lowN, AV.allN, AV.allNL, Ob.allN, allNL_p, okNm, okKey, okH, bkp, bk, bkH, lof_snoc_int, List.getD_cons_zero, List.getD_cons_succ]; first | done | rfl) | (simp [AV.mapN, AV.mapNL, Ob.mapN, mapNL_p, cnx, canH, canH.canH1, St.h, lowE, lowH, lowL, lowN, AV.allN, AV.allNL, Ob.allN, allNL_p, okNm, okKey, okH, bkp, bk, bkH]; done)) (by first | rfl | (simp only [go_sem, seval, AV.mapN, AV.mapNL, Ob.mapN, mapNL_p, cnx, canH, canH.canH1, lowE, lowH, lowL, lowN, AV.allN, AV.allNL, Ob.allN, allNL_p, okNm, okKey, okH, bkp, bk, bkH, lof_snoc_int, List.getD_cons_zero, List.getD_cons_succ]; first | done | rfl) | (simp [AV.mapN, AV.mapNL, Ob.mapN, mapNL_p, cnx, canH, canH.canH1, St.h, lowE, lowH, lowL, lowN, AV.allN, AV.allNL, Ob.allN, allNL_p, okNm, okKey, okH, bkp, bk, bkH]; done)) (by decide) (by first | rfl | (simp only [go_sem, seval, AV.mapN, AV.mapNL, Ob.mapN, mapNL_p, cnx, canH, canH.canH1, lowE, lowH, lowL, lowN, AV.allN, AV.allNL, Ob.allN, allNL_p, okNm, okKey, okH, bkp, bk, bkH, lof_snoc_int, List.getD_cons_zero, List.getD_cons_succ]; first | done | rfl) | (simp [AV.mapN, AV.mapNL, Ob.mapN, mapNL_p, cnx, canH, canH.canH1, St.h, lowE, lowH, lowL, lowN, AV.allN, AV.allNL, Ob.allN, allNL_p, okNm, okKey, okH, bkp, bk, bkH]; done)) ?_
      rintro x H' ⟨rfl, rfl⟩
      refine ⟨(by first | rfl | (simp only [go_sem, seval, AV.mapN, AV.mapNL, Ob.mapN, mapNL_p, cnx, canH, canH.canH1, lowE, lowH, lowL, lowN, AV.allN, AV.allNL, Ob.allN, allNL_p, okNm, okKey, okH, bkp, bk, bkH, lof_snoc_int, List.getD_cons_zero, List.getD_cons_succ]; first | done | rfl) | (simp [AV.mapN, AV.mapNL, Ob.mapN, mapNL_p, cnx, canH, canH.canH1, St.h, lowE, lowH, lowL, lowN, AV.allN, AV.allNL, Ob.allN, allNL_p, okNm, okKey, okH, bkp, bk, bkH]; done)), ?_⟩
      have et : R3.put T k j s = R3.rowT k l (R3.allT n L k) (j + 1) := by show _ = R3.put _ k j (l.getD j 0); rw [hT, hsd]
      have pok := R3.put_ok (c := k) (d := j) (s := s) jok (by omega)
      have pn : (R3.put T k j s).n = n := jn
      rw [et] at j4 pok pn
      simp only [go_sem, ↓reduceIte, Nat.reduceLT, Nat.reduceLeDiff, Nat.reduceEqDiff, Nat.reduceAdd, Nat.reduceSub, Nat.reduceDiv, Nat.reduceMod, Nat.reduceMul, Nat.reduceBEq, Nat.reduceBNe, reduceCtorEq, Int.reduceLT, Int.reduceLE, Int.reduceEq, Int.reduceNe, Int.reduceBEq, Int.reduceBNe, Int.reduceAdd, Int.reduceSub, Int.reduceNeg, Int.reduceToNat, St.back, AV.mapN, AV.mapNL, Ob.mapN, mapNL_p, bk, bkp, bkH, et]
      exact ⟨by rw [InK_i64]; omega, hjl, ⟨j4, pok, pn⟩, rfl⟩
    · obtain rfl : j = l.length := by omega
      rw [List.drop_length] at jI
      have et : R3.rowT k l (R3.allT n L k) l.length = R3.allT n L (k + 1) := by show _ = R3.rowT k (L.getD k []) _ (L.getD k []).length; rw [hld]
      simp only [R3.openD, Option.some.injEq] at jI
      rw [et] at jI jok jn
      simp only [go_sem, ↓reduceIte, Nat.reduceLT, Nat.reduceLeDiff, Nat.reduceEqDiff, Nat.reduceAdd, Nat.reduceSub, Nat.reduceDiv, Nat.reduceMod, Nat.reduceMul, Nat.reduceBEq, Nat.reduceBNe, reduceCtorEq, Int.reduceLT, Int.reduceLE, Int.reduceEq, Int.reduceNe, Int.reduceBEq, Int.reduceBNe, Int.reduceAdd, Int.reduceSub, Int.reduceNeg, Int.reduceToNat, hjl, Int.lt_irrefl, et]
      exact ⟨by rw [InK_i64]; omega, hlt, ⟨jI ▸ i4, jok, jn⟩, rfl⟩
  · obtain rfl : k = L.length := by omega
    rw [List.drop_length] at hI
    simp only [R3.openR, Option.some.injEq] at hI
    simp only [go_sem, ↓reduceIte, Nat.reduceLT, Nat.reduceLeDiff, Nat.reduceEqDiff, Nat.reduceAdd, Nat.reduceSub, Nat.reduceDiv, Nat.reduceMod, Nat.reduceMul, Nat.reduceBEq, Nat.reduceBNe, reduceCtorEq, Int.reduceLT, Int.reduceLE, Int.reduceEq, Int.reduceNe, Int.reduceBEq, Int.reduceBNe, Int.reduceAdd, Int.reduceSub, Int.reduceNeg, Int.reduceToNat, hlt, Int.lt_irrefl, hI]
end Go.V
