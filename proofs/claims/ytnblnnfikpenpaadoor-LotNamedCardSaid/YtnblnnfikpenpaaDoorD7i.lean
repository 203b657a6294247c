/-
  LotNamed: heavier loads, and another order. Conditions: none.
-/
import Derived.Test.YtnblnnfikpenpaaDoorD7h
import Derived.Test.YtnblnnfikpenpaaDoorP7u
set_option linter.unusedVariables false
set_option linter.unusedSimpArgs false
set_option linter.deprecated false
namespace Go.V
open Go.Proofs
set_option maxRecDepth 100000
set_option maxHeartbeats 4000000

theorem lotM_congr {n : Nat} {L H : List Int} (hL : checkS n L = 0) (hH : checkS n H = 0) (h : R7.whole n H n = R7.whole n L n) : lotM n H = lotM n L := by
  unfold lotM
  rw [if_pos hL, if_pos hH, Int.toNat_natCast, h]
theorem lotsM_of {n : Nat} {L : List Int} (hL : checkS n L = 0) : lotsM n L = ((((R7.whole n L n).length : Nat) : Int), 0) := by
  unfold lotsM
  rw [if_pos hL, Int.toNat_natCast]
theorem someM_congr {n : Nat} {L H : List Int} (hL : checkS n L = 0) (hH : checkS n H = 0) (h : (R7.someL n L).map List.length = (R7.someL n H).map List.length) : (someM n H).2 = (someM n L).2 ∧ (someM n H).1.length = (someM n L).1.length := by
  unfold someM
  rw [if_pos hL, if_pos hH, Int.toNat_natCast]
  cases hA : R7.someL n L <;> cases hB : R7.someL n H <;> rw [hA, hB] at h <;> simp at h ⊢
  rw [ofN_length, ofN_length]; exact h.symm

theorem LotNamed_spec (x : Nat × (List Nat)) (more : Nat) (B : List Nat) (hpre : HeapOK x ∧ more < 256 ∧ U8s 12 B) : Ret Tryd.prog 11 [heapP x, u8P more, .agg (lof u8P B)] (boolP true) := by
  refine fn_of (T := [ent_works, ent_clone7, ent_lot7, ent_lots7, ent_some7, ent_most7, ent_same7]) (N := 205) (RO := [3, 5]) (CH := [3500011, 3600011, 3700013]) (KS := [0, 1, 2, 3, 5, 6, 7, 8, 9, 10, 11, 12, 13, 14, 15, 16, 17, 18, 19, 20, 21, 22, 23, 24, 25, 26, 27, 34, 35, 36, 50, 51, 52, 152]) (NS := [8, 10, 11, 46, 48, 40007]) (fun args w => Tryd.call11 args w) Tryd.func11 rfl rfl (by simp) mixed (by kernel_rfl) ⟨tab_works_ok, tab_clone7_ok, tab_lot7_ok, tab_lots7_ok, tab_some7_ok, tab_most7_ok, tab_same7_ok, trivial⟩ ?_
  simp only [go_sem]
  obtain ⟨hok, hmo, hB⟩ := hpre
  have hl := hok.len
  have hr := Nat.mod_lt x.1 (show 6 > 0 by omega)
  obtain ⟨n, hn⟩ : ∃ n, 1 + x.1 % 6 = n := ⟨_, rfl⟩
  have h1 : 1 ≤ n := by omega
  have h6 : n ≤ 6 := by omega
  have ok := made_ok (W := x.2) (m := n + 4) h1 h6 (by omega) hl
  have hmade := madeT_spec x 6 51 [] (n + 4) hok (by omega) (by omega) (by omega) (by rw [hn]; exact named1_spec n h6)
  rw [hn, show min (n + 4) 12 = n + 4 by omega] at hmade
  obtain ⟨L0, hL0⟩ : ∃ L0, R7.madeL x.2 (n + 4) = L0 := ⟨_, rfl⟩
  rw [hL0] at ok hmade
  simp only [go_sem, u16s_one, u16s_take12 hl, u8s_one]
  (repeat with_reducible refine And.intro (by (repeat' with_reducible refine And.intro ?_ ?_) <;> first | with_reducible assumption | omega | (simp only [InK_i64, InK_u64, InK_u8]; omega) | (unfold sz; omega) | exact True.intro) ?_)
  refine vcallO [] 40000 hmade (by first | rfl | (simp only [go_sem, seval, AV.mapN, AV.mapNL, Ob.mapN, mapNL_p, cnx, canH, canH.canH1, lowE, lowH, lowL, lowN, AV.allN, AV.allNL, Ob.allN, allNL_p, okNm, okKey, okH, bkp, bk, bkH, lof_snoc_int, List.getD_cons_zero, List.getD_cons_succ]; first | done | rfl) | (simp [AV.mapN, AV.mapNL, Ob.mapN, mapNL_p, cnx, canH, canH.canH1, St.h, lowE, lowH, lowL, lowN, AV.allN, AV.allNL, Ob.allN, allNL_p, okNm, okKey, okH, bkp, bk, bkH]; done)) (by first | rfl | (simp only [go_sem, seval, AV.mapN, AV.mapNL, Ob.mapN, mapNL_p, cnx, canH, canH.canH1, lowE, lowH, lowL, lowN, AV.allN, AV.allNL, Ob.allN, allNL_p, okNm, okKey, okH, bkp, bk, bkH, lof_snoc_int, List.getD_cons_zero, List.getD_cons_succ]; first | done | rfl) | (simp [AV.mapN, AV.mapNL, Ob.mapN, mapNL_p, cnx, canH, canH.canH1, St.h, lowE, lowH, lowL, lowN, AV.allN, AV.allNL, Ob.allN, allNL_p, okNm, okKey, okH, bkp, bk, bkH]; done)) (by omega) (by first | rfl | (simp only [go_sem, seval, AV.mapN, AV.mapNL, Ob.mapN, mapNL_p, cnx, canH, canH.canH1, lowE, lowH, lowL, lowN, AV.allN, AV.allNL, Ob.allN, allNL_p, okNm, okKey, okH, bkp, bk, bkH, lof_snoc_int, List.getD_cons_zero, List.getD_cons_succ]; first | done | rfl) | (simp [AV.mapN, AV.mapNL, Ob.mapN, mapNL_p, cnx, canH, canH.canH1, St.h, lowE, lowH, lowL, lowN, AV.allN, AV.allNL, Ob.allN, allNL_p, okNm, okKey, okH, bkp, bk, bkH]; done)) ?_
  rintro _ H' ⟨rfl, rfl⟩
  refine ⟨(by first | rfl | (simp only [go_sem, seval, AV.mapN, AV.mapNL, Ob.mapN, mapNL_p, cnx, canH, canH.canH1, lowE, lowH, lowL, lowN, AV.allN, AV.allNL, Ob.allN, allNL_p, okNm, okKey, okH, bkp, bk, bkH, lof_snoc_int, List.getD_cons_zero, List.getD_cons_succ]; first | done | rfl) | (simp [AV.mapN, AV.mapNL, Ob.mapN, mapNL_p, cnx, canH, canH.canH1, St.h, lowE, lowH, lowL, lowN, AV.allN, AV.allNL, Ob.allN, allNL_p, okNm, okKey, okH, bkp, bk, bkH]; done)), ?_⟩
  simp only [go_sem, St.back, AV.mapN, AV.mapNL, Ob.mapN, mapNL_p, bk, bkp, bkH]
  have h12 := ok.len
  obtain ⟨L, hLd⟩ : ∃ L, R7.lessL L0 = L := ⟨_, rfl⟩
  have hLL : L.length = L0.length := by rw [← hLd]; exact R7.less_len L0
  have hLm := R7.less_mem L0
  rw [hLd] at hLm
  have okL : Okl n L := ⟨ok.n1, ok.n6, by omega, fun x hx => (hLm x hx).1, fun x hx => by have := (hLm x hx).2; omega⟩
  refine vfor [1,5,7,8,34,35] [8] [] L0.length (fun _ => True) (fun j => ⟨[(1,.p (u8P more)),(5,.p (.ref (lof u8P B) 0)),(7,.p (natP n)),(8,.sl 8),(34,.p (natP L0.length)),(35,.p (natP j))], [(8,.vec 3 1 (lof intP (R7.tad L L0 j)))]⟩) (by first | rfl | (simp only [go_sem, R7.tad_zero]; first | done | rfl)) trivial ?_
  intro j hj _
  by_cases hlt : j < L0.length
  · obtain ⟨x, hx⟩ := get_some hlt
    have hx0 := ok.lo x (List.mem_of_getElem? hx)
    have hLx : L[j]? = some (x % 500) := by rw [← hLd]; exact R7.less_get hx
    have hg := R7.tad_get hLL hx
    have hs := R7.tad_set hLL hLx
    have htl := R7.tad_length hLL j
    simp only [go_sem, hlt, lof_getD hg, htl, hLL, hx0]
    rw [show PV.val (Value.int IntKind.i64 (x % 500)) = intP (x % 500) from rfl, lof_set, hs]
    exact ⟨by rw [InK_i64]; omega, rfl⟩
  · obtain rfl : j = L0.length := by omega
    rw [← hLL, R7.tad_all hLL]
    clear hj hlt
    have h12' : L.length ≤ 12 := by omega
    have hzL : sz L.length := by unfold sz; omega
    have hBl := hB.len
    obtain ⟨H, hHd⟩ : ∃ H, R7.heavyL n more B L = H := ⟨_, rfl⟩
    have hHl : H.length = L.length := by rw [← hHd]; exact R7.heavy_len ..
    simp only [go_sem, Nat.lt_irrefl]
    refine ⟨hzL, hzL, ?_⟩
    refine vwhile [1,5,7,8,10,11,50,51] [10,11] [] (fun d : Nat × List Int => d.1 ≤ L.length ∧ d.2.Perm L) (fun d => L.length - d.1)
      (fun d => ⟨[(1,.p (u8P more)),(5,.p (.ref (lof u8P B) 0)),(7,.p (natP n)),(8,.p (ints L)),(10,.sl 10),(11,.sl 11),(50,.p (natP L.length)),(51,.p (natP d.1))], [(10,.vec 3 1 (lof intP (R7.tad H L d.1))),(11,.vec 3 1 (lof intP d.2))]⟩) (0, L) (by first | rfl | (simp only [go_sem, R7.tad_zero]; first | done | rfl)) ⟨Nat.zero_le _, List.Perm.refl _⟩ ?_
    rintro ⟨i, M⟩ ⟨hi, hM⟩
    simp only at hi hM
    have hMl := hM.length_eq
    by_cases hlt : i < L.length
    · obtain ⟨x, hx⟩ := get_some hlt
      obtain ⟨b, hb⟩ := get_some (show i < B.length by omega)
      have hb256 := hB.lt b (List.mem_of_getElem? hb)
      have hLg := hLm x (List.mem_of_getElem? hx)
      have hg := R7.tad_get hHl hx
      have htl := R7.tad_length hHl i
      have e30 : (b : Int) % 30 = ((b % 30 : Nat) : Int) := by omega
      have ek : (b : Int) % ((i : Int) + 1) = ((b % (i + 1) : Nat) : Int) := by rw [show (i : Int) + 1 = ((i + 1 : Nat) : Int) by omega, emod_nat]
      have hk := Nat.mod_lt b (show i + 1 > 0 by omega)
      obtain ⟨k, hkd⟩ : ∃ k, b % (i + 1) = k := ⟨_, rfl⟩
      rw [hkd] at ek hk
      obtain ⟨y, hy⟩ := get_some (show i < M.length by omega)
      obtain ⟨z, hz⟩ := get_some (show k < M.length by omega)
      simp only [go_sem, hlt, lof_getD hg, lof_getD hb, htl, hHl, hBl, hMl, lof_length, Nat.mul_one, e30, ek, lof_getD hy, lof_getD hz]
      have hnb : n * (b % 30) ≤ 6 * 29 := Nat.mul_le_mul h6 (by omega)
      have hnb2 : (n : Int) * ((b % 30 : Nat) : Int) = ((n * (b % 30) : Nat) : Int) := by push_cast; rfl
      have hi12 : i < 12 := by omega
      have hHx : H[i]? = some (x + ((more : Int) + (n : Int) * ((b % 30 : Nat) : Int))) := by rw [← hHd, R7.heavy_get hx, List.getD_eq_getElem?_getD, hb, Option.getD_some]
      have hs := R7.tad_set hHl hHx
      have hsw : R7.swapL M i k = (M.set i z).set k y := by
        unfold R7.swapL
        rw [List.getD_eq_getElem?_getD, hz, List.getD_eq_getElem?_getD, hy]; rfl
      have hkl : k < ((lof intP M).set i (PV.val (Value.int IntKind.i64 z))).length := by rw [List.length_set, lof_length]; omega
      refine ⟨by rw [InK_i64]; omega, hi12, hi12, by rw [InK_i64]; omega, by rw [hnb2, InK_i64]; omega, by rw [hnb2, InK_i64]; omega, by rw [hnb2, InK_i64]; omega, hi12, hi12, by rw [InK_i64]; omega, by rw [InK_i64]; omega, by omega, by omega, by omega, hkl, hkl, by rw [InK_i64]; omega, (i + 1, R7.swapL M i k), by simp only; omega, ⟨by simp only; omega, (R7.swap_perm (by omega) (by omega)).trans hM⟩, ?_⟩
      rw [hsw, show PV.val (Value.int IntKind.i64 (x + ((more : Int) + (n : Int) * ((b % 30 : Nat) : Int)))) = intP (x + ((more : Int) + (n : Int) * ((b % 30 : Nat) : Int))) from rfl, lof_set, hs, show PV.val (Value.int IntKind.i64 z) = intP z from rfl, show PV.val (Value.int IntKind.i64 y) = intP y from rfl, lof_set, lof_set]
      rfl
    · obtain rfl : i = L.length := by omega
      rw [← hHl, R7.tad_all hHl]
      have hcL := okL.check
      have hmem := R7.heavy_mem (n := n) (more := more) (B := B) h6 hmo hLm
      rw [hHd] at hmem
      have okH : Okl n H := ⟨h1, h6, by omega, fun x hx => (hmem x hx).1, fun x hx => (hmem x hx).2⟩
      have okM : Okl n M := ⟨h1, h6, by omega, fun x hx => okL.lo x (hM.mem_iff.1 hx), fun x hx => okL.hi x (hM.mem_iff.1 hx)⟩
      have hwh := R7.heavy_whole n more B L
      rw [hHd] at hwh
      have hlot := lotM_congr hcL okH.check hwh
      have l1 := lotsM_of hcL
      have l2 := lotsM_of okH.check
      have l3 := lotsM_of okM.check
      rw [hwh] at l2
      rw [R7.whole_perm h1 hM n] at l3
      obtain ⟨w, hw⟩ : ∃ w, (R7.whole n L n).length = w := ⟨_, rfl⟩
      rw [hw] at l1 l2 l3
      have hla := lotM_len n L
      have d1 : decide ((lotM n L).1 = (lotM n L).1) = true := by simp
      have s1 := someM_congr okM.check hcL (R7.someL_perm h1 (by omega) hM)
      have s2 := someM_len n L
      have s3 := someM_len n M
      obtain ⟨FL, F⟩ := mostF okL
      obtain ⟨FM, G⟩ := mostF okM
      have hf1 := F.most
      have hf2 := G.most
      have hf3 : FM.length = FL.length := by rw [F.len, G.len]; exact R7.mx_perm (by omega) hM (wset_ne h1 (by omega)) (wset_ne h1 (by omega))
      have s4 := s1.1
      have s5 := s1.2
      simp only [go_sem, Nat.lt_irrefl, hlot, l1, l2, l3, d1, hf1, hf2, s4, s5, hf3, List.length_map]
      have hzH : sz H.length := by unfold sz; omega
      have hzM : sz M.length := by unfold sz; omega
      have hzl : sz (lotM (↑n) L).1.length := by unfold sz; omega
      exact ⟨hzL, hzH, hzL, hzH, hzM, ⟨hzl, hzl⟩, hzL, hzM, hzL, hzM, ex_le_refl rfl⟩
end Go.V
