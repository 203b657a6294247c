/-
  Contracts of the laws of chapter 02: RoundEnough. Conditions: none.
-/
import Derived.Test.YthihkaohgencbaaDoorD2j
import Derived.Test.YthihkaohgencbaaDoorD2x
import Derived.Test.YthihkaohgencbaaDoorRndLy
import Derived.Test.YthihkaohgencbaaDoorVObj
set_option linter.unusedVariables false
set_option linter.unusedSimpArgs false
set_option linter.deprecated false
namespace Go.V
open Go.Proofs
set_option maxRecDepth 100000
set_option maxHeartbeats 4000000

theorem tryE_no {L : R2.G} {go : Nat → List Nat → Option (List Nat)} {u : Nat} {left : List Nat} {j : Nat} (h : R2.tryG L go u left j = none) (hn : (R2.pOf left j && R2.inc (R2.st L j) u) = false) : R2.tryG L go u left (j + 1) = none := by
  rw [R2.tryG, h, hn]; rfl
theorem tryE_stay {L : R2.G} {go : Nat → List Nat → Option (List Nat)} {u : Nat} {left l : List Nat} {j : Nat} (h : R2.tryG L go u left j = some l) : ∀ d, R2.tryG L go u left (j + d) = some l
  | 0 => h
  | d + 1 => by rw [← Nat.add_assoc, R2.tryG, tryE_stay h d]
theorem tryE_yes {L : R2.G} {go : Nat → List Nat → Option (List Nat)} {u : Nat} {left : List Nat} {j : Nat} (h : R2.tryG L go u left j = none) (hy : (R2.pOf left j && R2.inc (R2.st L j) u) = true) : R2.tryG L go u left (j + 1) = (go (R2.other (R2.st L j) u) (R2.decL left j)).map (j :: ·) := by
  rw [R2.tryG, h, hy]; rfl
/-- the search and what is left -/
def goesS (n : Nat) (L : R2.G) (left : List Nat) : List (Nat × Ob) := [(5000000, .cells 71 [.clo 51 [.p (.ref [natP n, strN L] 0), .ptr 5000000 0]]), (5000001, .vec 3 1 (lof intP (ofN left)))]
theorem goesC_spec {n : Nat} {L : R2.G} (ok : MapOK n L) : ∀ (k u : Nat) (left : List Nat), left.sum = k → left.length = L.length → (∀ x ∈ left, x ≤ 2) → u < n →
    FnO Tryd.prog 51 [.p (natP u), .sl 5000001, .p (.ref [natP n, strN L] 0), .ptr 5000000 0] (goesS n L left) (fun x H => x = .p (boolP (R2.goesF L k u left).isSome) ∧ H = goesS n L left) := by
  have h9 := ok.len
  have h6 := ok.n6
  intro k
  induction k with
  | zero =>
    intro u left hsum hlen htwo hun
    refine fnO_of (T := []) [5000000, 5000001] [] (N := 63) (RO := [9]) (CH := []) (KS := [0, 1, 2, 3, 6, 7, 8, 9, 10, 12, 13, 14, 15, 23, 33, 56]) (NS := [5000000, 5000001]) (fun args w => Tryd.call51 args w) Tryd.func51 rfl rfl (by simp) mixed (by kernel_rfl) trivial ?_
    unfold goesS
    simp only [go_sem]
    refine vfor [0,1,2,3,7,12,13,14] [5000000, 5000001] [] L.length (fun _ => True) (fun j => ⟨[(0,.p (natP u)),(1,.sl 5000001),(2,.p (.ref [natP n, strN L] 0)),(3,.ptr 5000000 0),(7,.p (boolP true)),(12,.p (strN L)),(13,.p (natP L.length)),(14,.p (natP j))], goesS n L left⟩) (by first | rfl | (simp only [go_sem, goesS]; first | done | rfl)) trivial ?_
    intro j hj _
    unfold goesS
    by_cases hlt : j < L.length
    · obtain ⟨a, b, hg, hg2, hab, hbn, hb6⟩ := ok.at hlt
      obtain ⟨x, hx⟩ := get_some (show j < left.length by omega)
      have hx0 : x = 0 := by
        have := R2.sum_zero hsum j
        unfold R2.lf at this
        rw [List.getD_eq_getElem?_getD, hx] at this; exact this
      have hz : ((x : Int) == 0) = true := by rw [beq_iff_eq]; omega
      simp only [go_sem, hlt, lof_getD hg, lof_getD (ofN_get hx), hz]
      exact ⟨by omega, by omega, by rw [InK_i64]; omega, rfl⟩
    · obtain rfl : j = L.length := by omega
      by_cases hu0 : u = 0
      · have hub : ((u : Int) == 0) = true := by rw [beq_iff_eq]; omega
        have hE : (R2.goesF L 0 u left).isSome = true := by rw [R2.goesF, if_pos hu0]; rfl
        rw [hE]
        simp only [go_sem, Nat.lt_irrefl, Int.lt_irrefl, hub]
        exact ⟨_, .refl _, rfl⟩
      · have hub : ((u : Int) == 0) = false := by rw [beq_eq_false_iff_ne]; omega
        have hE : (R2.goesF L 0 u left).isSome = false := by rw [R2.goesF, if_neg hu0]; rfl
        rw [hE]
        simp only [go_sem, Nat.lt_irrefl, Int.lt_irrefl, hub]
        exact ⟨_, .refl _, rfl⟩
  | succ k ih =>
    intro u left hsum hlen htwo hun
    refine fnO_of (T := []) [5000000, 5000001] [] (N := 63) (RO := [9]) (CH := []) (KS := [0, 1, 2, 3, 6, 7, 8, 9, 10, 12, 13, 14, 15, 23, 33, 56]) (NS := [5000000, 5000001]) (fun args w => Tryd.call51 args w) Tryd.func51 rfl rfl (by simp) mixed (by kernel_rfl) trivial ?_
    have hE : R2.goesF L (k + 1) u left = R2.tryG L (R2.goesF L k) u left L.length := by rw [R2.goesF]
    rw [hE]
    unfold goesS
    simp only [go_sem]
    refine vfor [0,1,2,3,7,12,13,14] [5000000, 5000001] [] L.length (fun j => R2.tryG L (R2.goesF L k) u left j = none) (fun j => ⟨[(0,.p (natP u)),(1,.sl 5000001),(2,.p (.ref [natP n, strN L] 0)),(3,.ptr 5000000 0),(7,.p (boolP (decide ((left.take j).sum = 0)))),(12,.p (strN L)),(13,.p (natP L.length)),(14,.p (natP j))], goesS n L left⟩) (by first | rfl | (simp only [go_sem, goesS]; first | done | rfl)) rfl ?_
    intro j hj hI
    unfold goesS
    by_cases hlt : j < L.length
    · obtain ⟨a, c, hg, hg2, hab, hbn, hb6⟩ := ok.at hlt
      have hst : R2.st L j = ⟨a, c⟩ := hg2
      obtain ⟨x, hx⟩ := get_some (show j < left.length by omega)
      have hx2 := htwo x (List.mem_of_getElem? hx)
      have hlf : R2.lf left j = x := lf_get hx
      have hts : (left.take (j + 1)).sum = (left.take j).sum + x := by rw [take_succ_of hx, List.sum_append]; simp
      by_cases hx0 : x = 0
      · have hz : ((x : Int) == 0) = true := by rw [beq_iff_eq]; omega
        have hno : (R2.pOf left j && R2.inc (R2.st L j) u) = false := by
          unfold R2.pOf; rw [hlf, hx0]; rfl
        have hd : decide ((left.take (j + 1)).sum = 0) = decide ((left.take j).sum = 0) := by rw [hts, hx0]; rfl
        simp only [go_sem, hlt, lof_getD hg, lof_getD (ofN_get hx), hz]
        rw [hd]
        exact ⟨by omega, by omega, by rw [InK_i64]; omega, tryE_no hI hno, rfl⟩
      · have hz : ((x : Int) == 0) = false := by rw [beq_eq_false_iff_ne]; omega
        have hd : decide ((left.take (j + 1)).sum = 0) = false := by rw [decide_eq_false_iff_not, hts]; omega
        by_cases hin : a = u ∨ c = u
        · have hinc : R2.inc (R2.st L j) u = true := by
            rw [hst]; unfold R2.inc
            rw [Bool.or_eq_true, beq_iff_eq, beq_iff_eq]; exact hin
          have hyes : (R2.pOf left j && R2.inc (R2.st L j) u) = true := by
            rw [hinc, Bool.and_true]; unfold R2.pOf; rw [hlf]; exact decide_eq_true (by omega)
          have hstep := tryE_yes hI hyes
          have hoi := other_int hinc
          have ho6 : R2.other ⟨a, c⟩ u < n := R2.other_lt (e := ⟨a, c⟩) ⟨hab, hbn⟩ (by rw [← hst]; exact hinc)
          rw [hst] at hoi hstep
          have hoi : (a : Int) + (c : Int) - (u : Int) = ((R2.other ⟨a, c⟩ u : Nat) : Int) := hoi
          have hdec : left.set j (x - 1) = R2.decL left j := by unfold R2.decL; rw [hlf]
          have hsd := R2.sum_dec (left := left) (i := j) (by rw [hlf]; omega)
          have hdl := R2.decL_length left j
          have hd2 : ∀ y ∈ R2.decL left j, y ≤ 2 := fun y hy => by
            rw [← hdec] at hy
            rcases List.mem_or_eq_of_mem_set hy with h | h
            · exact htwo y h
            · omega
          have hx3 : (R2.decL left j)[j]? = some (x - 1) := by rw [← hdec]; exact List.getElem?_set_self (by omega)
          have hback : (R2.decL left j).set j x = left := by
            rw [← hdec, List.set_set]
            refine List.ext_getElem? fun v => ?_
            by_cases e : v = j
            · subst e; rw [List.getElem?_set_self (by omega), hx]
            · rw [List.getElem?_set_ne (by omega)]
          have e1 : (x : Int) - 1 = ((x - 1 : Nat) : Int) := by omega
          have e2 : ((x - 1 : Nat) : Int) + 1 = (x : Int) := by omega
          have hcall := ih (R2.other ⟨a, c⟩ u) (R2.decL left j) (by omega) (by omega) hd2 ho6
          unfold goesS at hcall
          by_cases hau : a = u
          · have q2 : ((a : Int) != (u : Int)) = false := by rw [bne_eq_false_iff_eq]; omega
            simp only [go_sem, hlt, lof_getD hg, lof_getD (ofN_get hx), hz, q2, e1, ofN_setQ, hdec, hoi]
            refine ⟨by omega, by omega, by omega, by omega, by omega, by rw [InK_i64]; omega, by omega, by omega, by omega, by omega, by rw [InK_i64]; omega, by rw [InK_i64]; omega, ?_⟩
            refine vcallO [5000000, 5000001] 10000 hcall (by first | rfl | (simp only [go_sem, seval, AV.mapN, AV.mapNL, Ob.mapN, mapNL_p, cnx, canH, canH.canH1, lowE, lowH, lowL, lowN, AV.allN, AV.allNL, Ob.allN, allNL_p, okNm, okKey, okH, bkp, bk, bkH, lof_snoc_int, List.getD_cons_zero, List.getD_cons_succ]; first | done | rfl) | (simp [AV.mapN, AV.mapNL, Ob.mapN, mapNL_p, cnx, canH, canH.canH1, St.h, lowE, lowH, lowL, lowN, AV.allN, AV.allNL, Ob.allN, allNL_p, okNm, okKey, okH, bkp, bk, bkH]; done)) (by first | rfl | (simp only [go_sem, seval, AV.mapN, AV.mapNL, Ob.mapN, mapNL_p, cnx, canH, canH.canH1, lowE, lowH, lowL, lowN, AV.allN, AV.allNL, Ob.allN, allNL_p, okNm, okKey, okH, bkp, bk, bkH, lof_snoc_int, List.getD_cons_zero, List.getD_cons_succ]; first | done | rfl) | (simp [AV.mapN, AV.mapNL, Ob.mapN, mapNL_p, cnx, canH, canH.canH1, St.h, lowE, lowH, lowL, lowN, AV.allN, AV.allNL, Ob.allN, allNL_p, okNm, okKey, okH, bkp, bk, bkH]; done)) (by omega) (by first | rfl | (simp only [go_sem, seval, AV.mapN, AV.mapNL, Ob.mapN, mapNL_p, cnx, canH, canH.canH1, lowE, lowH, lowL, lowN, AV.allN, AV.allNL, Ob.allN, allNL_p, okNm, okKey, okH, bkp, bk, bkH, lof_snoc_int, List.getD_cons_zero, List.getD_cons_succ]; first | done | rfl) | (simp [AV.mapN, AV.mapNL, Ob.mapN, mapNL_p, cnx, canH, canH.canH1, St.h, lowE, lowH, lowL, lowN, AV.allN, AV.allNL, Ob.allN, allNL_p, okNm, okKey, okH, bkp, bk, bkH]; done)) ?_
            rintro _ H' ⟨rfl, rfl⟩
            refine ⟨(by first | rfl | (simp only [go_sem, seval, AV.mapN, AV.mapNL, Ob.mapN, mapNL_p, cnx, canH, canH.canH1, lowE, lowH, lowL, lowN, AV.allN, AV.allNL, Ob.allN, allNL_p, okNm, okKey, okH, bkp, bk, bkH, lof_snoc_int, List.getD_cons_zero, List.getD_cons_succ]; first | done | rfl) | (simp [AV.mapN, AV.mapNL, Ob.mapN, mapNL_p, cnx, canH, canH.canH1, St.h, lowE, lowH, lowL, lowN, AV.allN, AV.allNL, Ob.allN, allNL_p, okNm, okKey, okH, bkp, bk, bkH]; done)), ?_⟩
            cases hgo : R2.goesF L k (R2.other ⟨a, c⟩ u) (R2.decL left j) with
            | some r =>
              rw [hgo] at hstep
              have hfin := tryE_stay hstep (L.length - (j + 1))
              rw [show j + 1 + (L.length - (j + 1)) = L.length by omega] at hfin
              simp only [go_sem, St.back, AV.mapN, AV.mapNL, Ob.mapN, mapNL_p, bk, bkp, bkH, Option.isSome_some, lof_getD (ofN_get hx3), e2, ofN_setQ, hback]
              rw [hfin]
              rw [hdl]
              exact ⟨by omega, by omega, by rw [InK_i64]; omega, by omega, by omega, _, .refl _, rfl⟩
            | none =>
              rw [hgo] at hstep
              simp only [go_sem, St.back, AV.mapN, AV.mapNL, Ob.mapN, mapNL_p, bk, bkp, bkH, Option.isSome_none, lof_getD (ofN_get hx3), e2, ofN_setQ, hback]
              rw [hd]
              rw [hdl]
              exact ⟨by omega, by omega, by rw [InK_i64]; omega, by omega, by omega, by rw [InK_i64]; omega, hlt, hstep, rfl⟩
          · have q2 : ((a : Int) != (u : Int)) = true := by rw [bne_iff_ne]; omega
            have q3 : ((c : Int) != (u : Int)) = false := by rw [bne_eq_false_iff_eq]; omega
            simp only [go_sem, hlt, lof_getD hg, lof_getD (ofN_get hx), hz, q2, q3, e1, ofN_setQ, hdec, hoi]
            refine ⟨by omega, by omega, by omega, by omega, by omega, by omega, by rw [InK_i64]; omega, by omega, by omega, by omega, by omega, by rw [InK_i64]; omega, by rw [InK_i64]; omega, ?_⟩
            refine vcallO [5000000, 5000001] 10000 hcall (by first | rfl | (simp only [go_sem, seval, AV.mapN, AV.mapNL, Ob.mapN, mapNL_p, cnx, canH, canH.canH1, lowE, lowH, lowL, lowN, AV.allN, AV.allNL, Ob.allN, allNL_p, okNm, okKey, okH, bkp, bk, bkH, lof_snoc_int, List.getD_cons_zero, List.getD_cons_succ]; first | done | rfl) | (simp [AV.mapN, AV.mapNL, Ob.mapN, mapNL_p, cnx, canH, canH.canH1, St.h, lowE, lowH, lowL, lowN, AV.allN, AV.allNL, Ob.allN, allNL_p, okNm, okKey, okH, bkp, bk, bkH]; done)) (by first | rfl | (simp only [go_sem, seval, AV.mapN, AV.mapNL, Ob.mapN, mapNL_p, cnx, canH, canH.canH1, lowE, lowH, lowL, lowN, AV.allN, AV.allNL, Ob.allN, allNL_p, okNm, okKey, okH, bkp, bk, bkH, lof_snoc_int, List.getD_cons_zero, List.getD_cons_succ]; first | done | rfl) | (simp [AV.mapN, AV.mapNL, Ob.mapN, mapNL_p, cnx, canH, canH.canH1, St.h, lowE, lowH, lowL, lowN, AV.allN, AV.allNL, Ob.allN, allNL_p, okNm, okKey, okH, bkp, bk, bkH]; done)) (by omega) (by first | rfl | (simp only [go_sem, seval, AV.mapN, AV.mapNL, Ob.mapN, mapNL_p, cnx, canH, canH.canH1, lowE, lowH, lowL, lowN, AV.allN, AV.allNL, Ob.allN, allNL_p, okNm, okKey, okH, bkp, bk, bkH, lof_snoc_int, List.getD_cons_zero, List.getD_cons_succ]; first | done | rfl) | (simp [AV.mapN, AV.mapNL, Ob.mapN, mapNL_p, cnx, canH, canH.canH1, St.h, lowE, lowH, lowL, lowN, AV.allN, AV.allNL, Ob.allN, allNL_p, okNm, okKey, okH, bkp, bk, bkH]; done)) ?_
            rintro _ H' ⟨rfl, rfl⟩
            refine ⟨(by first | rfl | (simp only [go_sem, seval, AV.mapN, AV.mapNL, Ob.mapN, mapNL_p, cnx, canH, canH.canH1, lowE, lowH, lowL, lowN, AV.allN, AV.allNL, Ob.allN, allNL_p, okNm, okKey, okH, bkp, bk, bkH, lof_snoc_int, List.getD_cons_zero, List.getD_cons_succ]; first | done | rfl) | (simp [AV.mapN, AV.mapNL, Ob.mapN, mapNL_p, cnx, canH, canH.canH1, St.h, lowE, lowH, lowL, lowN, AV.allN, AV.allNL, Ob.allN, allNL_p, okNm, okKey, okH, bkp, bk, bkH]; done)), ?_⟩
            cases hgo : R2.goesF L k (R2.other ⟨a, c⟩ u) (R2.decL left j) with
            | some r =>
              rw [hgo] at hstep
              have hfin := tryE_stay hstep (L.length - (j + 1))
              rw [show j + 1 + (L.length - (j + 1)) = L.length by omega] at hfin
              simp only [go_sem, St.back, AV.mapN, AV.mapNL, Ob.mapN, mapNL_p, bk, bkp, bkH, Option.isSome_some, lof_getD (ofN_get hx3), e2, ofN_setQ, hback]
              rw [hfin]
              rw [hdl]
              exact ⟨by omega, by omega, by rw [InK_i64]; omega, by omega, by omega, _, .refl _, rfl⟩
            | none =>
              rw [hgo] at hstep
              simp only [go_sem, St.back, AV.mapN, AV.mapNL, Ob.mapN, mapNL_p, bk, bkp, bkH, Option.isSome_none, lof_getD (ofN_get hx3), e2, ofN_setQ, hback]
              rw [hd]
              rw [hdl]
              exact ⟨by omega, by omega, by rw [InK_i64]; omega, by omega, by omega, by rw [InK_i64]; omega, hlt, hstep, rfl⟩
        · have q2 : ((a : Int) != (u : Int)) = true := by rw [bne_iff_ne]; omega
          have q3 : ((c : Int) != (u : Int)) = true := by rw [bne_iff_ne]; omega
          have hno : (R2.pOf left j && R2.inc (R2.st L j) u) = false := by
            have : R2.inc (R2.st L j) u = false := by
              rw [hst]; unfold R2.inc
              rw [Bool.or_eq_false_iff, beq_eq_false_iff_ne, beq_eq_false_iff_ne]; exact ⟨fun h => hin (.inl h), fun h => hin (.inr h)⟩
            rw [this, Bool.and_false]
          simp only [go_sem, hlt, lof_getD hg, lof_getD (ofN_get hx), hz, q2, q3]
          rw [hd]
          exact ⟨by omega, by omega, by omega, by omega, by rw [InK_i64]; omega, tryE_no hI hno, rfl⟩
    · obtain rfl : j = L.length := by omega
      rw [hI]
      have hd : decide ((left.take L.length).sum = 0) = false := by
        rw [← hlen, List.take_length, decide_eq_false_iff_not]; omega
      rw [hd]
      simp only [go_sem, Nat.lt_irrefl, Int.lt_irrefl]
      exact ⟨_, .refl _, rfl⟩

/-- how often each street is, as far as it has been said -/
def lfK (L : R2.G) (m k : Nat) : List Nat := (List.range L.length).map fun i => if i < k then (if m.testBit i then 2 else 1) else 0
theorem lfK_len (L : R2.G) (m k : Nat) : (lfK L m k).length = L.length := by simp [lfK]
theorem lfK_get (L : R2.G) (m k : Nat) {i : Nat} (hi : i < L.length) : (lfK L m k)[i]? = some (if i < k then (if m.testBit i then 2 else 1) else 0) := by
  unfold lfK; rw [List.getElem?_map, List.getElem?_range hi]; rfl
theorem lfK_zero (L : R2.G) (m : Nat) : lfK L m 0 = List.replicate L.length 0 := by
  refine List.ext_getElem? fun j => ?_
  by_cases hj : j < L.length
  · rw [lfK_get L m _ hj, List.getElem?_replicate, if_pos hj, if_neg (by omega)]
  · rw [List.getElem?_eq_none (by rw [lfK_len]; omega), List.getElem?_eq_none (by simp; omega)]
theorem lfK_succ (L : R2.G) (m : Nat) {k : Nat} (hk : k < L.length) : lfK L m (k + 1) = (lfK L m k).set k (if m.testBit k then 2 else 1) := by
  refine List.ext_getElem? fun j => ?_
  by_cases hj : j < L.length
  · rw [lfK_get L m _ hj]
    by_cases e : j = k
    · subst e; rw [List.getElem?_set_self (by rw [lfK_len]; exact hj), if_pos (by omega)]
    · rw [List.getElem?_set_ne (by omega), lfK_get L m _ hj]
      by_cases h : j < k
      · rw [if_pos h, if_pos (by omega)]
      · rw [if_neg h, if_neg (by omega)]
  · rw [List.getElem?_eq_none (by rw [lfK_len]; omega), List.getElem?_eq_none (by rw [List.length_set, lfK_len]; omega)]
theorem lfK_all (L : R2.G) (m : Nat) : lfK L m L.length = R2.leftJ L m := by
  unfold lfK R2.leftJ
  exact List.map_congr_left fun i hi => by rw [if_pos (List.mem_range.1 hi)]
theorem odd_even {n : Nat} {L : R2.G} (ok : R2.Ok n L) : (R2.ones (R2.oddM L)).length % 2 = 0 := by
  have hp := Nat.two_pow_pos n
  have h := R2.oddS_len ok.val ok.n6 ok.len (show 2 ^ n - 1 < 2 ^ n by omega)
  have hol : R2.oddM L < 2 ^ n := R2.strM_lt ok.val ok.len (R2.fullM_lt L)
  have e : (2 ^ n - 1) &&& R2.oddM L = R2.oddM L := by
    refine Nat.eq_of_testBit_eq fun i => ?_
    rw [Nat.testBit_and, R2.full_bit]
    by_cases hi : i < n
    · rw [decide_eq_true hi, Bool.true_and]
    · rw [Nat.testBit_lt_two_pow (Nat.lt_of_lt_of_le hol (Nat.pow_le_pow_right (by decide) (by omega))), Bool.and_false]
  rw [e] at h
  have h0 : R2.oddS L (2 ^ n - 1) = false := by
    unfold R2.oddS R2.xs
    rw [← R2.xl_false (List.range L.length)]
    refine R2.xl_congr fun i hi => ?_
    have hv := ok.val.get (List.mem_range.1 hi)
    show (_ && ((2 ^ n - 1).testBit _ ^^ (2 ^ n - 1).testBit _)) = false
    rw [R2.full_bit, R2.full_bit, decide_eq_true (show (L.getD i default).a < n by omega), decide_eq_true hv.2, Bool.xor_self, Bool.and_false]
  rw [h0] at h
  have := of_decide_eq_false h.symm
  omega
theorem RoundEnough_spec (A : List Nat) (hpre : U8s 27 A) : Ret Tryd.prog 8 [.agg (lof u8P A)] (boolP true) := by
  refine fn_of (T := [ent_madeL, ent_everyL, ent_oddL, ent_membersL, ent_odd2i, ent_same2, ent_enough2, ent_works2]) (N := 103) (RO := [1, 3]) (CH := [10]) (KS := [0, 1, 2, 3, 4, 5, 6, 7, 8, 9, 10, 11, 37, 40, 41, 42, 49, 50, 51, 84, 85, 91]) (NS := [4, 8, 47]) (fun args w => Tryd.call8 args w) Tryd.func8 rfl rfl (by simp) mixed (by kernel_rfl) ⟨tab_madeL_ok, tab_everyL_ok, tab_oddL_ok, tab_membersL_ok, tab_odd2i_ok, tab_same2_ok, tab_enough2_ok, tab_works2_ok, trivial⟩ ?_
  simp only [go_sem]
  have em : tab_madeL [.agg (lof u8P A), .val (.int .i64 4), .val (.int .i64 5)] = _ := tab_madeL_eq A 4 5
  have ok : R2.Ok _ _ := R2.town_ok A (show 1 ≤ 4 by omega) (show 4 ≤ 6 by omega) (show 4 ≤ 5 + 1 by omega) (show 5 ≤ 9 by omega)
  have hA27 := hpre.len
  have hA2 : A.getD 2 0 < 256 := by
    have := get_u8 (show 2 < A.length by omega)
    exact hpre.lt _ (List.mem_of_getElem? this)
  rw [u8s_one]
  simp only [go_sem, u8s_take hpre.len, u8s_norm, em]
  generalize R2.townN A 4 = n at *
  generalize R2.townL A 4 5 = L at *
  have mok := MapOK.of ok
  have h9 := ok.len
  have h512 := pow_le512 h9
  have h6 := ok.n6
  have h64 := pow_le6 h6
  have hp := Nat.two_pow_pos L.length
  have hfull : R2.fullM L < 2 ^ L.length := R2.fullM_lt L
  have ef : ((R2.fullM L : Nat) : Int) + 1 = ((2 ^ L.length : Nat) : Int) := by unfold R2.fullM; omega
  have hodd := odd_nat ok
  have hol : R2.oddM L < 2 ^ n := R2.strM_lt ok.val h9 hfull
  have hoe := odd_even ok
  have ho9 := ones_len (R2.oddM L)
  have hso : R2.strM L (R2.fullM L) = R2.oddM L := rfl
  have d1 : ∀ l : List Int, decide (l = l) = true := fun l => by simp
  have em2 : (((R2.ones (R2.oddM L)).length : Nat) : Int) % 2 = 0 := by omega
  have v5 : Value.nilFunc.oneCell' = true := rfl
  simp only [go_sem, v5, hodd, hso, d1, ofN_length, em2, ef]
  have he2 := lof_getN (show 2 < A.length by omega)
  generalize A.getD 2 0 = v at *
  have hen := fun l => enough_nat ok l
  have hEn : ∀ k, k < 2 ^ L.length → R2.enoughE n (castL L) (ofN (R2.ones k)) = if R2.okJ L k = true then 0 else 14 := fun k hk => by
    obtain ⟨l1, l2⟩ := side_listed h9 hk
    unfold R2.enoughE
    rw [if_pos (chk ok), castL_length, if_pos l1, l2, nat_cast]
  have hz0 := fun k => lfK_zero L k
  refine ⟨by omega, hpre, sz9 h9, h9, ⟨mok, hfull⟩, by omega, ⟨sz9 ho9, sz9 ho9⟩, h9, by rw [InK_u64]; omega, ?_⟩
  refine vfor [1,3,4,5,40,41] [4] [] (2 ^ L.length) (fun _ => True) (fun k => ⟨[(1,.p (.ref (lof u8P A) 0)),(3,.p (.ref [natP n, strN L] 0)),(4,.ptr 4 0),(5,.p (ints (ofN (R2.ones (R2.oddM L))))),(40,.p (u64P (2 ^ L.length))),(41,.p (u64P k))], [(4,.cells 71 [.clo 51 [.p (.ref [natP n, strN L] 0), .ptr 4 0]])]⟩) (by first | rfl | (simp only [go_sem]; first | done | rfl)) trivial ?_
  intro k hk _
  by_cases hlt : k < 2 ^ L.length
  · have hz : lof intP (ofN (lfK L k 0)) = List.replicate L.length (.val (.int .i64 0)) := by rw [lfK_zero]; simp [lof, ofN]
    simp only [go_sem, hlt]
    refine ⟨by omega, ?_⟩
    refine vfor [1,3,4,5,7,8,40,41,49,50] [4,8] [] L.length (fun _ => True) (fun j => ⟨[(1,.p (.ref (lof u8P A) 0)),(3,.p (.ref [natP n, strN L] 0)),(4,.ptr 4 0),(5,.p (ints (ofN (R2.ones (R2.oddM L))))),(7,.p (u64P k)),(8,.sl 8),(40,.p (u64P (2 ^ L.length))),(41,.p (u64P k)),(49,.p (natP L.length)),(50,.p (natP j))], [(4,.cells 71 [.clo 51 [.p (.ref [natP n, strN L] 0), .ptr 4 0]]),(8,.vec 3 1 (lof intP (ofN (lfK L k j))))]⟩) (by first | rfl | (simp only [go_sem, hz, List.length_replicate]; first | done | rfl)) trivial ?_
    intro j hj _
    by_cases hjl : j < L.length
    · have hsl := lfK_succ L k hjl
      have hll := lfK_len L k j
      have eb : (1 : Int) + (((k.testBit j).toNat : Nat) : Int) = ((if k.testBit j then 2 else 1 : Nat) : Int) := by cases k.testBit j <;> rfl
      have hb2 : (if k.testBit j then 2 else 1 : Nat) ≤ 2 := by split <;> omega
      have hbn : (k.testBit j).toNat ≤ 1 := by cases k.testBit j <;> decide
      simp only [go_sem, hjl, bit_at k j (by omega), eb, ofN_setQ]
      rw [← hsl]
      exact ⟨by omega, by rw [InK_i64]; omega, by rw [InK_i64]; omega, by omega, by omega, by rw [InK_i64]; omega, rfl⟩
    · obtain rfl : j = L.length := by omega
      rw [lfK_all]
      have ek3 : (k : Int) % 3 = ((k % 3 : Nat) : Int) := by omega
      have ev3 : (v : Int) % 3 = ((v % 3 : Nat) : Int) := by omega
      have hjoin := R2.okJ_iff ok.val h9 hlt
      have hgi := R2.goes_iff ok k
      have hsome : (R2.goesF L (R2.leftJ L k).sum 0 (R2.leftJ L k)).isSome = R2.okJ L k := by
        rw [Bool.eq_iff_iff, Option.isSome_iff_exists, hgi, hjoin]
      have hcall := goesC_spec mok (R2.leftJ L k).sum 0 (R2.leftJ L k) rfl (R2.leftJ_length L k) (fun x hx => by
        unfold R2.leftJ at hx
        obtain ⟨i, _, rfl⟩ := List.mem_map.1 hx
        split <;> omega) ok.n1
      rw [hsome] at hcall
      unfold goesS at hcall
      have hee := hEn k hlt
      have hon := ones_len k
      cases hq : R2.okJ L k with
      | true =>
        have hx : (((R2.strM L k : Nat) : Int) == ((R2.oddM L : Nat) : Int)) = true := by rw [beqN]; exact hq
        rw [hq] at hcall
        rw [hq, if_pos rfl] at hee
        have hcall : FnO Tryd.prog 51 [.p (.val (.int .i64 0)), .sl 5000001, .p (.ref [natP n, strN L] 0), .ptr 5000000 0] _ _ := hcall
        cases h3 : (((k % 3 : Nat) : Int) == ((v % 3 : Nat) : Int)) with
        | true =>
          simp only [go_sem, Nat.lt_irrefl, Int.lt_irrefl, hso, hx, he2, ek3, ev3, h3, hen, hee]
          refine ⟨⟨mok, hlt⟩, h9, ⟨mok, hfull⟩, by omega, by rw [InK_u64]; omega, ?_⟩
          refine vcallO [4, 8] 10000 hcall (by first | rfl | (simp only [go_sem, seval, AV.mapN, AV.mapNL, Ob.mapN, mapNL_p, cnx, canH, canH.canH1, lowE, lowH, lowL, lowN, AV.allN, AV.allNL, Ob.allN, allNL_p, okNm, okKey, okH, bkp, bk, bkH, lof_snoc_int, List.getD_cons_zero, List.getD_cons_succ]; first | done | rfl) | (simp [AV.mapN, AV.mapNL, Ob.mapN, mapNL_p, cnx, canH, canH.canH1, St.h, lowE, lowH, lowL, lowN, AV.allN, AV.allNL, Ob.allN, allNL_p, okNm, okKey, okH, bkp, bk, bkH]; done)) (by first | rfl | (simp only [go_sem, seval, AV.mapN, AV.mapNL, Ob.mapN, mapNL_p, cnx, canH, canH.canH1, lowE, lowH, lowL, lowN, AV.allN, AV.allNL, Ob.allN, allNL_p, okNm, okKey, okH, bkp, bk, bkH, lof_snoc_int, List.getD_cons_zero, List.getD_cons_succ]; first | done | rfl) | (simp [AV.mapN, AV.mapNL, Ob.mapN, mapNL_p, cnx, canH, canH.canH1, St.h, lowE, lowH, lowL, lowN, AV.allN, AV.allNL, Ob.allN, allNL_p, okNm, okKey, okH, bkp, bk, bkH]; done)) (by omega) (by first | rfl | (simp only [go_sem, seval, AV.mapN, AV.mapNL, Ob.mapN, mapNL_p, cnx, canH, canH.canH1, lowE, lowH, lowL, lowN, AV.allN, AV.allNL, Ob.allN, allNL_p, okNm, okKey, okH, bkp, bk, bkH, lof_snoc_int, List.getD_cons_zero, List.getD_cons_succ]; first | done | rfl) | (simp [AV.mapN, AV.mapNL, Ob.mapN, mapNL_p, cnx, canH, canH.canH1, St.h, lowE, lowH, lowL, lowN, AV.allN, AV.allNL, Ob.allN, allNL_p, okNm, okKey, okH, bkp, bk, bkH]; done)) ?_
          rintro _ H' ⟨rfl, rfl⟩
          refine ⟨(by first | rfl | (simp only [go_sem, seval, AV.mapN, AV.mapNL, Ob.mapN, mapNL_p, cnx, canH, canH.canH1, lowE, lowH, lowL, lowN, AV.allN, AV.allNL, Ob.allN, allNL_p, okNm, okKey, okH, bkp, bk, bkH, lof_snoc_int, List.getD_cons_zero, List.getD_cons_succ]; first | done | rfl) | (simp [AV.mapN, AV.mapNL, Ob.mapN, mapNL_p, cnx, canH, canH.canH1, St.h, lowE, lowH, lowL, lowN, AV.allN, AV.allNL, Ob.allN, allNL_p, okNm, okKey, okH, bkp, bk, bkH]; done)), ?_⟩
          simp only [go_sem, St.back, AV.mapN, AV.mapNL, Ob.mapN, mapNL_p, bk, bkp, bkH, hso, hx, bne_self_eq_false, hen, hee]
          exact ⟨by omega, ⟨sz9 h9, sz9 hon⟩, by rw [InK_u64]; omega, hlt, rfl⟩
        | false =>
          simp only [go_sem, Nat.lt_irrefl, Int.lt_irrefl, hso, hx, he2, ek3, ev3, h3, hen, hee]
          exact ⟨⟨mok, hlt⟩, h9, ⟨mok, hfull⟩, by omega, by rw [InK_u64]; omega, by omega, ⟨sz9 h9, sz9 hon⟩, by rw [InK_u64]; omega, hlt, rfl⟩
      | false =>
        have hx : (((R2.strM L k : Nat) : Int) == ((R2.oddM L : Nat) : Int)) = false := by rw [beqN]; exact hq
        rw [hq] at hcall
        rw [hq, if_neg (by decide)] at hee
        have hcall : FnO Tryd.prog 51 [.p (.val (.int .i64 0)), .sl 5000001, .p (.ref [natP n, strN L] 0), .ptr 5000000 0] _ _ := hcall
        cases h3 : (((k % 3 : Nat) : Int) == ((v % 3 : Nat) : Int)) with
        | true =>
          simp only [go_sem, Nat.lt_irrefl, Int.lt_irrefl, hso, hx, he2, ek3, ev3, h3, hen, hee]
          refine ⟨⟨mok, hlt⟩, h9, ⟨mok, hfull⟩, by omega, by rw [InK_u64]; omega, ?_⟩
          refine vcallO [4, 8] 10000 hcall (by first | rfl | (simp only [go_sem, seval, AV.mapN, AV.mapNL, Ob.mapN, mapNL_p, cnx, canH, canH.canH1, lowE, lowH, lowL, lowN, AV.allN, AV.allNL, Ob.allN, allNL_p, okNm, okKey, okH, bkp, bk, bkH, lof_snoc_int, List.getD_cons_zero, List.getD_cons_succ]; first | done | rfl) | (simp [AV.mapN, AV.mapNL, Ob.mapN, mapNL_p, cnx, canH, canH.canH1, St.h, lowE, lowH, lowL, lowN, AV.allN, AV.allNL, Ob.allN, allNL_p, okNm, okKey, okH, bkp, bk, bkH]; done)) (by first | rfl | (simp only [go_sem, seval, AV.mapN, AV.mapNL, Ob.mapN, mapNL_p, cnx, canH, canH.canH1, lowE, lowH, lowL, lowN, AV.allN, AV.allNL, Ob.allN, allNL_p, okNm, okKey, okH, bkp, bk, bkH, lof_snoc_int, List.getD_cons_zero, List.getD_cons_succ]; first | done | rfl) | (simp [AV.mapN, AV.mapNL, Ob.mapN, mapNL_p, cnx, canH, canH.canH1, St.h, lowE, lowH, lowL, lowN, AV.allN, AV.allNL, Ob.allN, allNL_p, okNm, okKey, okH, bkp, bk, bkH]; done)) (by omega) (by first | rfl | (simp only [go_sem, seval, AV.mapN, AV.mapNL, Ob.mapN, mapNL_p, cnx, canH, canH.canH1, lowE, lowH, lowL, lowN, AV.allN, AV.allNL, Ob.allN, allNL_p, okNm, okKey, okH, bkp, bk, bkH, lof_snoc_int, List.getD_cons_zero, List.getD_cons_succ]; first | done | rfl) | (simp [AV.mapN, AV.mapNL, Ob.mapN, mapNL_p, cnx, canH, canH.canH1, St.h, lowE, lowH, lowL, lowN, AV.allN, AV.allNL, Ob.allN, allNL_p, okNm, okKey, okH, bkp, bk, bkH]; done)) ?_
          rintro _ H' ⟨rfl, rfl⟩
          refine ⟨(by first | rfl | (simp only [go_sem, seval, AV.mapN, AV.mapNL, Ob.mapN, mapNL_p, cnx, canH, canH.canH1, lowE, lowH, lowL, lowN, AV.allN, AV.allNL, Ob.allN, allNL_p, okNm, okKey, okH, bkp, bk, bkH, lof_snoc_int, List.getD_cons_zero, List.getD_cons_succ]; first | done | rfl) | (simp [AV.mapN, AV.mapNL, Ob.mapN, mapNL_p, cnx, canH, canH.canH1, St.h, lowE, lowH, lowL, lowN, AV.allN, AV.allNL, Ob.allN, allNL_p, okNm, okKey, okH, bkp, bk, bkH]; done)), ?_⟩
          simp only [go_sem, St.back, AV.mapN, AV.mapNL, Ob.mapN, mapNL_p, bk, bkp, bkH, hso, hx, bne_self_eq_false, hen, hee]
          exact ⟨by omega, ⟨sz9 h9, sz9 hon⟩, by rw [InK_u64]; omega, hlt, rfl⟩
        | false =>
          simp only [go_sem, Nat.lt_irrefl, Int.lt_irrefl, hso, hx, he2, ek3, ev3, h3, hen, hee]
          exact ⟨⟨mok, hlt⟩, h9, ⟨mok, hfull⟩, by omega, by rw [InK_u64]; omega, by omega, ⟨sz9 h9, sz9 hon⟩, by rw [InK_u64]; omega, hlt, rfl⟩
  · obtain rfl : k = 2 ^ L.length := by omega
    have hE0 : R2.enoughE n (castL L) [] = if R2.oddM L = 0 then 0 else 14 := by
      have h1 := hEn 0 hp
      rw [show ofN (R2.ones 0) = [] from rfl] at h1
      rw [h1]
      unfold R2.okJ
      rw [show R2.strM L 0 = 0 from rfl]
      by_cases h : R2.oddM L = 0
      · rw [if_pos h, h]; rfl
      · rw [if_neg h, if_neg (by rw [beq_iff_eq]; omega)]
    have hen0 := enough_nat ok []
    simp only [ints, lof_nil] at hen0
    rw [hE0] at hen0
    by_cases h : R2.oddM L = 0
    · rw [if_pos h] at hen0
      rw [h]
      have hl0 : ((((R2.ones 0).length : Nat) : Int) == 0) = true := rfl
      simp only [go_sem, Nat.lt_irrefl, Int.lt_irrefl, hen0, ofN_length, hl0]
      exact ⟨⟨sz9 h9, sz9 (Nat.zero_le _)⟩, ex_le_refl rfl⟩
    · rw [if_neg h] at hen0
      have hl0 : ((((R2.ones (R2.oddM L)).length : Nat) : Int) == 0) = false := by
        rw [beq_eq_false_iff_ne]
        intro h0
        obtain ⟨i, hi⟩ := R2.exists_bit h
        have h512 : R2.oddM L < 512 := by omega
        have hi9 : i < 9 := by
          rcases Nat.lt_or_ge i 9 with h | h
          · exact h
          · rw [R2.testBit_big h512 h] at hi; cases hi
        have : i ∈ R2.ones (R2.oddM L) := R2.mem_ones.2 ⟨hi9, hi⟩
        have := List.length_pos_of_mem this
        omega
      simp only [go_sem, Nat.lt_irrefl, Int.lt_irrefl, hen0, ofN_length, hl0]
      exact ⟨⟨sz9 h9, sz9 (Nat.zero_le _)⟩, ex_le_refl rfl⟩
end Go.V
