/-
  Contracts of the program of chapter 07: as many lots as possible. Conditions: none.
  Contracts of the reference of chapter 07: as many lots as possible. Conditions: none.
-/
import Derived.Test.YtnblnnfikpenpaaDoorD7e
import Derived.Test.YtnblnnfikpenpaaDoorC7c
set_option linter.unusedVariables false
set_option linter.unusedSimpArgs false
set_option linter.deprecated false
namespace Go.V
open Go.Proofs
set_option maxRecDepth 100000
set_option maxHeartbeats 4000000

abbrev resLL (r : List (List Int) × Int) : PV := .tuple [lists r.1, errP r.2]
noncomputable def mostL (n : Nat) (L : List Int) : List Nat := R7.greedy (R7.mx (R7.wset n L n)) (R7.wset n L n) (2 ^ L.length - 1)
noncomputable def mostM (n : Int) (L : List Int) : List (List Int) × Int := if checkS n L = 0 then ((mostL n.toNat L).map fun s => ofN (R7.ones s), 0) else ([], checkS n L)
theorem wset_ne {n : Nat} {L : List Int} (hn : 1 ≤ n) (hL : L.length ≤ 12) : ∀ x ∈ R7.wset n L n, x ≠ 0 := fun x hx e => by
  have := R7.wset_len hL hx
  subst e; rw [R7.ones_zero] at this; simp at this; omega
theorem mx_le {w : List Nat} (h0 : ∀ x ∈ w, x ≠ 0) (s : Nat) : R7.mx w s ≤ s := by
  obtain ⟨F, hF, hl⟩ := (R7.mx_most h0).att s
  have := R7.fam_le h0 s s F (Nat.le_refl _) hF
  omega
/-- the table of the most lots, so far -/
noncomputable def mxL (w : List Nat) (d c : Nat) : List Nat := (List.range (2 ^ d)).map fun s => if s < c then R7.mx w s else 0
theorem mxL_length (w : List Nat) (d c : Nat) : (mxL w d c).length = 2 ^ d := by simp [mxL]
theorem mxL_get {w : List Nat} {d c s : Nat} (h : s < 2 ^ d) (hc : s < c) : (mxL w d c)[s]? = some (R7.mx w s) := by simp [mxL, h, hc]
theorem mxL_set (w : List Nat) (d c : Nat) : (mxL w d c).set c (R7.mx w c) = mxL w d (c + 1) := by
  apply List.ext_getElem (by simp [mxL])
  intro i h1 h2
  simp only [mxL, List.getElem_set, List.getElem_map, List.getElem_range]
  by_cases e : c = i
  · subst e; simp
  · by_cases h : i < c
    · rw [if_neg e, if_pos h, if_pos (by omega)]
    · rw [if_neg e, if_neg h, if_neg (by omega)]
theorem mxL_zero {w : List Nat} (h0 : ∀ x ∈ w, x ≠ 0) (d : Nat) : mxL w d 1 = mxL w d 0 := by
  apply List.ext_getElem (by simp [mxL])
  intro i h1 h2
  simp only [mxL, List.getElem_map, List.getElem_range]
  by_cases h : i < 1
  · obtain rfl : i = 0 := by omega
    rw [if_pos h, R7.mx_zero h0]; rfl
  · rw [if_neg h]; rfl
theorem mxL_new (w : List Nat) (d : Nat) : lof natP (mxL w d 0) = List.replicate (2 ^ d) (PV.val (.int .i64 0)) := by
  apply List.ext_getElem (by simp [mxL, lof])
  intro i h1 h2
  simp [mxL, lof]
theorem dif_zero_sub (l s : Nat) : (((R7.dif l s : Nat) : Int) == 0) = R7.sub l s := by
  rw [Bool.eq_iff_iff, beq_iff_eq, R7.sub_iff]
  constructor
  · intro h i hi
    have h2 : (R7.dif l s).testBit i = false := by rw [show R7.dif l s = 0 by omega]; simp
    rw [R7.dif_bit, hi] at h2
    cases hs : s.testBit i with
    | true => rfl
    | false => rw [hs] at h2; cases h2
  · intro h
    have : R7.dif l s = 0 := by
      apply Nat.eq_of_testBit_eq; intro i
      rw [R7.dif_bit, Nat.zero_testBit]
      cases hl : l.testBit i with
      | false => rfl
      | true => rw [h i hl]; rfl
    omega

abbrev onI (s : Nat) : List Int := ofN (R7.ones s)
theorem most7_spec (n : Int) (L : List Int) (hpre : sz L.length) : Ret Tryd.prog 26 [intP n, ints L] (resLL (mostM n L)) := by
  refine fn_of (T := [ent_check7, ent_wholes7, ent_len, ent_list60]) (N := 122) (RO := [115]) (CH := [3500016, 3600016, 3600024]) (KS := [0, 1, 4, 5, 6, 7, 8, 9, 10, 12, 13, 14, 16, 21, 32, 33, 34, 37, 52, 53, 54, 55, 67, 88, 89, 90, 91, 111]) (NS := [4, 8, 13, 30, 116]) (fun args w => Tryd.call26 args w) Tryd.func26 rfl rfl (by simp) mixed (by kernel_rfl) ⟨tab_check7_ok, tab_wholes7_ok, tab_len_ok, tab_list60_ok, trivial⟩ ?_
  simp only [go_sem, ↓reduceIte, Nat.reduceLT, Nat.reduceLeDiff, Nat.reduceEqDiff, Nat.reduceAdd, Nat.reduceSub, Nat.reduceDiv, Nat.reduceMod, Nat.reduceMul, Nat.reduceBEq, Nat.reduceBNe, reduceCtorEq, Int.reduceLT, Int.reduceLE, Int.reduceEq, Int.reduceNe, Int.reduceBEq, Int.reduceBNe, Int.reduceAdd, Int.reduceSub, Int.reduceNeg, Int.reduceToNat]
  by_cases hc : checkS n L = 0
  · obtain ⟨m, rfl⟩ := nat_of hc
    have ok := Okl.of hc
    have h12 := ok.len
    have hp := R7.pow12 h12
    have hpos := Nat.two_pow_pos L.length
    have hm : mostM (m : Int) L = _ := if_pos hc
    rw [Int.toNat_natCast] at hm
    rw [hm]
    have h0 := wset_ne ok.n1 h12
    have hwlt : ∀ x ∈ R7.wset m L m, x < 2 ^ L.length := fun x hx => R7.wset_lt h12 hx
    have hwl := R7.wset_size (n := m) (k := m) h12
    unfold mostL
    generalize hW : R7.wset m L m = W at *
    have e2 : (1 : Int) * 2 ^ L.length = ((2 ^ L.length : Nat) : Int) := by push_cast; simp
    simp only [go_sem, ↓reduceIte, Nat.reduceLT, Nat.reduceLeDiff, Nat.reduceEqDiff, Nat.reduceAdd, Nat.reduceSub, Nat.reduceDiv, Nat.reduceMod, Nat.reduceMul, Nat.reduceBEq, Nat.reduceBNe, reduceCtorEq, Int.reduceLT, Int.reduceLE, Int.reduceEq, Int.reduceNe, Int.reduceBEq, Int.reduceBNe, Int.reduceAdd, Int.reduceSub, Int.reduceNeg, Int.reduceToNat, hc, hW, e2, Int.toNat_natCast]
    rw [← mxL_new W]
    (repeat with_reducible refine And.intro (by (repeat' with_reducible refine And.intro ?_ ?_) <;> first | with_reducible assumption | omega | (simp only [InK_i64, InK_u64, InK_u8]; omega) | (unfold sz; omega) | exact True.intro) ?_)
    refine vfor [7,8,32,33] [8] [] (2 ^ L.length) (fun _ => True) (fun c => ⟨[(7,.p (nats W)),(8,.sl 8),(32,.p (natP (2 ^ L.length))),(33,.p (natP c))], [(8,.vec 3 1 (lof natP (mxL W L.length c)))]⟩) (by first | rfl | (simp only [go_sem, ↓reduceIte, Nat.reduceLT, Nat.reduceLeDiff, Nat.reduceEqDiff, Nat.reduceAdd, Nat.reduceSub, Nat.reduceDiv, Nat.reduceMod, Nat.reduceMul, Nat.reduceBEq, Nat.reduceBNe, reduceCtorEq, Int.reduceLT, Int.reduceLE, Int.reduceEq, Int.reduceNe, Int.reduceBEq, Int.reduceBNe, Int.reduceAdd, Int.reduceSub, Int.reduceNeg, Int.reduceToNat, mxL_length]; first | done | rfl)) trivial ?_
    intro c hcc _
    by_cases hlt : c < 2 ^ L.length
    · by_cases hc0 : c = 0
      · subst hc0
        simp only [go_sem, ↓reduceIte, Nat.reduceLT, Nat.reduceLeDiff, Nat.reduceEqDiff, Nat.reduceAdd, Nat.reduceSub, Nat.reduceDiv, Nat.reduceMod, Nat.reduceMul, Nat.reduceBEq, Nat.reduceBNe, reduceCtorEq, Int.reduceLT, Int.reduceLE, Int.reduceEq, Int.reduceNe, Int.reduceBEq, Int.reduceBNe, Int.reduceAdd, Int.reduceSub, Int.reduceNeg, Int.reduceToNat, hlt, show (0 : Int) < ((2 ^ L.length : Nat) : Int) by omega]
        rw [mxL_zero h0]
        (repeat' (first | assumption | (rw [InK_i64]; omega) | (rw [InK_u8]; omega) | (rw [InK_u64]; omega) | omega | rfl | apply And.intro))
      · have hc0b : ((c : Int) == 0) = false := by rw [beq_eq_false_iff_ne]; omega
        obtain ⟨i, hi⟩ : ∃ i, Nat.log2 c = i := ⟨_, rfl⟩
        have ht := R7.top_dif c (by omega) hc0
        have hlp := R7.log2_pow_le hc0
        have hli : Nat.log2 c < L.length := by rw [Nat.log2_lt hc0]; exact hlt
        have e4 : ((Nat.log2 c + 1 : Nat) : Int) - 1 = (Nat.log2 c : Int) := by omega
        have hms := R7.mx_step h0 (s := c) (t := Nat.log2 c)
        rw [hi] at ht hlp hli e4 hms
        have e5 : (1 : Int) * 2 ^ i = ((2 ^ i : Nat) : Int) := by push_cast; simp
        have hpi := Nat.two_pow_pos i
        have e6 := i64_andNot (show c < 4294967296 by omega) (show 2 ^ i < 4294967296 by omega)
        have hdl : R7.dif c (2 ^ i) < c := by rw [ht]; omega
        have hg := mxL_get (w := W) (d := L.length) (c := c) (s := R7.dif c (2 ^ i)) (by omega) hdl
        simp only [go_sem, ↓reduceIte, Nat.reduceLT, Nat.reduceLeDiff, Nat.reduceEqDiff, Nat.reduceAdd, Nat.reduceSub, Nat.reduceDiv, Nat.reduceMod, Nat.reduceMul, Nat.reduceBEq, Nat.reduceBNe, reduceCtorEq, Int.reduceLT, Int.reduceLE, Int.reduceEq, Int.reduceNe, Int.reduceBEq, Int.reduceBNe, Int.reduceAdd, Int.reduceSub, Int.reduceNeg, Int.reduceToNat, hlt, hc0b, hi, e4, e5, e6, mxL_length, lof_getD hg, Int.toNat_natCast]
        (repeat with_reducible refine And.intro (by (repeat' with_reducible refine And.intro ?_ ?_) <;> first | with_reducible assumption | omega | (simp only [InK_i64, InK_u64, InK_u8]; omega) | (unfold sz; omega) | exact True.intro) ?_)
        obtain ⟨F, hFd⟩ : ∃ F : Nat → Nat, F = fun j => (W.take j).foldl (fun b l => if (l.testBit i && R7.sub l c) = true then max b (1 + R7.mx W (R7.dif c l)) else b) (R7.mx W (R7.dif c (2 ^ i))) := ⟨_, rfl⟩
        have hF0 : F 0 = R7.mx W (R7.dif c (2 ^ i)) := by rw [hFd]; simp
        have hF1 : F W.length = R7.mx W c := by rw [hFd, hms]; simp only [List.take_length]
        have hFs : ∀ j l, W[j]? = some l → F (j + 1) = if (l.testBit i && R7.sub l c) = true then max (F j) (1 + R7.mx W (R7.dif c l)) else F j := fun j l hl => by
          rw [hFd]; simp only [take_succ_of hl, List.foldl_append, List.foldl_cons, List.foldl_nil]
        have hF : ∀ j, F j ≤ c := fun j => by
          rw [hFd]
          refine R7.foldl_le _ _ _ _ _ (Nat.le_trans (mx_le h0 _) (by omega)) fun l hl hp => ?_
          rw [Bool.and_eq_true] at hp
          have := R7.mx_cons h0 (List.mem_of_mem_take hl) hp.2
          exact Nat.le_trans this (mx_le h0 c)
        rw [← hF0]
        refine vfor [7,8,9,10,32,33,52,53,54] [8] [] W.length (fun _ => True) (fun j => ⟨[(7,.p (nats W)),(8,.sl 8),(9,.p (natP c)),(10,.p (natP (2 ^ i))),(32,.p (natP (2 ^ L.length))),(33,.p (natP c)),(52,.p (nats W)),(53,.p (natP W.length)),(54,.p (natP j))], [(8,.vec 3 1 (lof natP ((mxL W L.length c).set c (F j))))]⟩) (by first | rfl | (simp only [go_sem, ↓reduceIte, Nat.reduceLT, Nat.reduceLeDiff, Nat.reduceEqDiff, Nat.reduceAdd, Nat.reduceSub, Nat.reduceDiv, Nat.reduceMod, Nat.reduceMul, Nat.reduceBEq, Nat.reduceBNe, reduceCtorEq, Int.reduceLT, Int.reduceLE, Int.reduceEq, Int.reduceNe, Int.reduceBEq, Int.reduceBNe, Int.reduceAdd, Int.reduceSub, Int.reduceNeg, Int.reduceToNat, lof_set]; first | done | rfl)) trivial ?_
        intro j hj _
        by_cases hjl : j < W.length
        · obtain ⟨l, hl⟩ := get_some hjl
          have hlm := List.mem_of_getElem? hl
          have hllt := hwlt l hlm
          have hl0 := h0 l hlm
          have hs := hFs j l hl
          have hFj := hF j
          have e7 := i64_and (show l < 4294967296 by omega) (show 2 ^ i < 4294967296 by omega)
          have e8 := i64_andNot (show l < 4294967296 by omega) (show c < 4294967296 by omega)
          have e9 := dif_zero_sub l c
          have e10 : (((l &&& 2 ^ i : Nat) : Int) != 0) = l.testBit i := by rw [← and_pow_ne, Bool.eq_iff_iff]; simp
          cases hb1 : l.testBit i with
          | false =>
            rw [hb1] at hs e10
            simp only [go_sem, ↓reduceIte, Nat.reduceLT, Nat.reduceLeDiff, Nat.reduceEqDiff, Nat.reduceAdd, Nat.reduceSub, Nat.reduceDiv, Nat.reduceMod, Nat.reduceMul, Nat.reduceBEq, Nat.reduceBNe, reduceCtorEq, Int.reduceLT, Int.reduceLE, Int.reduceEq, Int.reduceNe, Int.reduceBEq, Int.reduceBNe, Int.reduceAdd, Int.reduceSub, Int.reduceNeg, Int.reduceToNat, hjl, lof_getD hl, e7, e10]
            rw [hs]
            (repeat' (first | assumption | (rw [InK_i64]; omega) | (rw [InK_u8]; omega) | (rw [InK_u64]; omega) | omega | rfl | apply And.intro))
          | true =>
            cases hb2 : R7.sub l c with
            | false =>
              rw [hb1, hb2] at hs
              rw [hb1] at e10
              rw [hb2] at e9
              simp only [go_sem, ↓reduceIte, Nat.reduceLT, Nat.reduceLeDiff, Nat.reduceEqDiff, Nat.reduceAdd, Nat.reduceSub, Nat.reduceDiv, Nat.reduceMod, Nat.reduceMul, Nat.reduceBEq, Nat.reduceBNe, reduceCtorEq, Int.reduceLT, Int.reduceLE, Int.reduceEq, Int.reduceNe, Int.reduceBEq, Int.reduceBNe, Int.reduceAdd, Int.reduceSub, Int.reduceNeg, Int.reduceToNat, hjl, lof_getD hl, e7, e8, e9, e10]
              rw [hs]
              (repeat' (first | assumption | (rw [InK_i64]; omega) | (rw [InK_u8]; omega) | (rw [InK_u64]; omega) | omega | rfl | apply And.intro))
            | true =>
              rw [hb1, hb2] at hs
              rw [hb1] at e10
              rw [hb2] at e9
              have hdl2 := R7.dif_lt hb2 hl0
              have e11 := i64_andNot (show c < 4294967296 by omega) (show l < 4294967296 by omega)
              have hg1 : ((mxL W L.length c).set c (F j))[c]? = some (F j) := by rw [List.getElem?_set_self]; rw [mxL_length]; exact hlt
              have hg2 : ((mxL W L.length c).set c (F j))[R7.dif c l]? = some (R7.mx W (R7.dif c l)) := by rw [List.getElem?_set_ne (by omega)]; exact mxL_get (by omega) hdl2
              have hmx := mx_le h0 (R7.dif c l)
              have hsl : ((mxL W L.length c).set c (F j)).length = 2 ^ L.length := by rw [List.length_set, mxL_length]
              simp only [go_sem, ↓reduceIte, Nat.reduceLT, Nat.reduceLeDiff, Nat.reduceEqDiff, Nat.reduceAdd, Nat.reduceSub, Nat.reduceDiv, Nat.reduceMod, Nat.reduceMul, Nat.reduceBEq, Nat.reduceBNe, reduceCtorEq, Int.reduceLT, Int.reduceLE, Int.reduceEq, Int.reduceNe, Int.reduceBEq, Int.reduceBNe, Int.reduceAdd, Int.reduceSub, Int.reduceNeg, Int.reduceToNat, hjl, lof_getD hl, e7, e8, e9, e10, e11, hsl, lof_getD hg1, lof_getD hg2]
              have hv : (if (F j : Int) < 1 + (R7.mx W (R7.dif c l) : Int) then 1 + (R7.mx W (R7.dif c l) : Int) else (F j : Int)) = ((F (j + 1) : Nat) : Int) := by
                rw [hs]; simp only [Bool.and_self, if_true]
                rw [Nat.max_def]; split <;> split <;> omega
              rw [hv, lof_set, List.set_set]
              exact ⟨hlt, hlt, by omega, by omega, by rw [InK_i64]; omega, hlt, hlt, by rw [InK_i64]; omega, rfl⟩
        · obtain rfl : j = W.length := by omega
          rw [hF1, mxL_set]
          simp only [go_sem, ↓reduceIte, Nat.reduceLT, Nat.reduceLeDiff, Nat.reduceEqDiff, Nat.reduceAdd, Nat.reduceSub, Nat.reduceDiv, Nat.reduceMod, Nat.reduceMul, Nat.reduceBEq, Nat.reduceBNe, reduceCtorEq, Int.reduceLT, Int.reduceLE, Int.reduceEq, Int.reduceNe, Int.reduceBEq, Int.reduceBNe, Int.reduceAdd, Int.reduceSub, Int.reduceNeg, Int.reduceToNat, Nat.lt_irrefl]
          (repeat' (first | assumption | (rw [InK_i64]; omega) | (rw [InK_u8]; omega) | (rw [InK_u64]; omega) | omega | rfl | apply And.intro))
    · obtain rfl : c = 2 ^ L.length := by omega
      simp only [go_sem, ↓reduceIte, Nat.reduceLT, Nat.reduceLeDiff, Nat.reduceEqDiff, Nat.reduceAdd, Nat.reduceSub, Nat.reduceDiv, Nat.reduceMod, Nat.reduceMul, Nat.reduceBEq, Nat.reduceBNe, reduceCtorEq, Int.reduceLT, Int.reduceLE, Int.reduceEq, Int.reduceNe, Int.reduceBEq, Int.reduceBNe, Int.reduceAdd, Int.reduceSub, Int.reduceNeg, Int.reduceToNat, Nat.lt_irrefl, mxL_length]
      refine ⟨by rw [InK_i64]; omega, ?_⟩
      have ea : ((2 ^ L.length : Nat) : Int) - 1 = ((2 ^ L.length - 1 : Nat) : Int) := by omega
      rw [ea]
      refine vwhile [8,13,14,88,89,90] [8,13] [.nilS 13 22 1] (fun d : Nat × Nat × List Nat => d.1 ≤ W.length ∧ d.2.1 < 2 ^ L.length ∧ d.2.2.length ≤ d.1 ∧ R7.greedy (R7.mx W) W (2 ^ L.length - 1) = d.2.2 ++ R7.greedy (R7.mx W) (W.drop d.1) d.2.1) (fun d => W.length - d.1)
        (fun d => ⟨[(8,.sl 8),(13,.sl 13),(14,.p (natP d.2.1)),(88,.p (nats W)),(89,.p (natP W.length)),(90,.p (natP d.1))], [(8,.vec 3 1 (lof natP (mxL W L.length (2 ^ L.length)))),(13,.vec 22 1 (lof ints (d.2.2.map onI)))]⟩) (0, 2 ^ L.length - 1, []) (by first | rfl | (simp only [go_sem, ↓reduceIte, Nat.reduceLT, Nat.reduceLeDiff, Nat.reduceEqDiff, Nat.reduceAdd, Nat.reduceSub, Nat.reduceDiv, Nat.reduceMod, Nat.reduceMul, Nat.reduceBEq, Nat.reduceBNe, reduceCtorEq, Int.reduceLT, Int.reduceLE, Int.reduceEq, Int.reduceNe, Int.reduceBEq, Int.reduceBNe, Int.reduceAdd, Int.reduceSub, Int.reduceNeg, Int.reduceToNat]; first | done | rfl)) ⟨by simp, by simp only; omega, by simp, by simp⟩ ?_
      rintro ⟨k, s, acc⟩ ⟨hk, hs, hacc, hI⟩
      simp only at hk hs hacc hI
      by_cases hkl : k < W.length
      · obtain ⟨l, hl⟩ := get_some hkl
        have hlm := List.mem_of_getElem? hl
        have hllt := hwlt l hlm
        have hd : W.drop k = l :: W.drop (k + 1) := by rw [List.drop_eq_getElem_cons hkl]; simp [List.getElem?_eq_getElem hkl] at hl; rw [hl]
        rw [hd, R7.greedy] at hI
        have e8 := i64_andNot (show l < 4294967296 by omega) (show s < 4294967296 by omega)
        have e9 := dif_zero_sub l s
        cases hb2 : R7.sub l s with
        | false =>
          rw [if_neg (by simp [hb2])] at hI
          rw [hb2] at e9
          simp only [go_sem, ↓reduceIte, Nat.reduceLT, Nat.reduceLeDiff, Nat.reduceEqDiff, Nat.reduceAdd, Nat.reduceSub, Nat.reduceDiv, Nat.reduceMod, Nat.reduceMul, Nat.reduceBEq, Nat.reduceBNe, reduceCtorEq, Int.reduceLT, Int.reduceLE, Int.reduceEq, Int.reduceNe, Int.reduceBEq, Int.reduceBNe, Int.reduceAdd, Int.reduceSub, Int.reduceNeg, Int.reduceToNat, hkl, lof_getD hl, e8, e9]
          exact ⟨by rw [InK_i64]; omega, (k + 1, s, acc), by simp only; omega, ⟨by simp only; omega, hs, by simp only; omega, hI⟩, rfl⟩
        | true =>
          rw [hb2] at e9
          have e11 := i64_andNot (show s < 4294967296 by omega) (show l < 4294967296 by omega)
          have hdl := R7.dif_le s l
          have hg1 := mxL_get (w := W) (d := L.length) (c := 2 ^ L.length) (s := s) hs hs
          have hg2 := mxL_get (w := W) (d := L.length) (c := 2 ^ L.length) (s := R7.dif s l) (by omega) (by omega)
          have hmx := mx_le h0 (R7.dif s l)
          by_cases hm2 : 1 + R7.mx W (R7.dif s l) = R7.mx W s
          · have hm3 : ((1 + (R7.mx W (R7.dif s l) : Int)) == (R7.mx W s : Int)) = true := by rw [beq_iff_eq]; omega
            rw [if_pos ⟨hb2, hm2⟩] at hI
            simp only [go_sem, ↓reduceIte, Nat.reduceLT, Nat.reduceLeDiff, Nat.reduceEqDiff, Nat.reduceAdd, Nat.reduceSub, Nat.reduceDiv, Nat.reduceMod, Nat.reduceMul, Nat.reduceBEq, Nat.reduceBNe, reduceCtorEq, Int.reduceLT, Int.reduceLE, Int.reduceEq, Int.reduceNe, Int.reduceBEq, Int.reduceBNe, Int.reduceAdd, Int.reduceSub, Int.reduceNeg, Int.reduceToNat, hkl, lof_getD hl, e8, e9, e11, mxL_length, lof_getD hg1, lof_getD hg2, hm3]
            have hk1 : (acc.map onI).length = acc.length := by simp
            exact ⟨by omega, by omega, by rw [InK_i64]; omega, hs, hs, by omega, by omega, by rw [InK_i64]; omega, (k + 1, R7.dif s l, acc ++ [l]), by simp only; omega, ⟨by simp only; omega, by simp only; omega, by simp; omega, by rw [hI]; simp⟩, by simp [lof]⟩
          · have hm3 : ((1 + (R7.mx W (R7.dif s l) : Int)) == (R7.mx W s : Int)) = false := by rw [beq_eq_false_iff_ne]; omega
            rw [if_neg (fun h => hm2 h.2)] at hI
            simp only [go_sem, ↓reduceIte, Nat.reduceLT, Nat.reduceLeDiff, Nat.reduceEqDiff, Nat.reduceAdd, Nat.reduceSub, Nat.reduceDiv, Nat.reduceMod, Nat.reduceMul, Nat.reduceBEq, Nat.reduceBNe, reduceCtorEq, Int.reduceLT, Int.reduceLE, Int.reduceEq, Int.reduceNe, Int.reduceBEq, Int.reduceBNe, Int.reduceAdd, Int.reduceSub, Int.reduceNeg, Int.reduceToNat, hkl, lof_getD hl, e8, e9, e11, mxL_length, lof_getD hg1, lof_getD hg2, hm3]
            exact ⟨by omega, by omega, by rw [InK_i64]; omega, hs, hs, by rw [InK_i64]; omega, (k + 1, s, acc), by simp only; omega, ⟨by simp only; omega, hs, by simp only; omega, hI⟩, rfl⟩
      · obtain rfl : k = W.length := by omega
        rw [List.drop_length, R7.greedy, List.append_nil] at hI
        simp only [go_sem, ↓reduceIte, Nat.reduceLT, Nat.reduceLeDiff, Nat.reduceEqDiff, Nat.reduceAdd, Nat.reduceSub, Nat.reduceDiv, Nat.reduceMod, Nat.reduceMul, Nat.reduceBEq, Nat.reduceBNe, reduceCtorEq, Int.reduceLT, Int.reduceLE, Int.reduceEq, Int.reduceNe, Int.reduceBEq, Int.reduceBNe, Int.reduceAdd, Int.reduceSub, Int.reduceNeg, Int.reduceToNat, Nat.lt_irrefl]
        exact ex_le_refl (by rw [hI])
  · have hm : mostM n L = ([], checkS n L) := if_neg hc
    have hcb : (checkS n L != 0) = true := by simp [hc]
    rw [hm]
    simp only [go_sem, ↓reduceIte, Nat.reduceLT, Nat.reduceLeDiff, Nat.reduceEqDiff, Nat.reduceAdd, Nat.reduceSub, Nat.reduceDiv, Nat.reduceMod, Nat.reduceMul, Nat.reduceBEq, Nat.reduceBNe, reduceCtorEq, Int.reduceLT, Int.reduceLE, Int.reduceEq, Int.reduceNe, Int.reduceBEq, Int.reduceBNe, Int.reduceAdd, Int.reduceSub, Int.reduceNeg, Int.reduceToNat, hcb]
    (repeat with_reducible refine And.intro (by (repeat' with_reducible refine And.intro ?_ ?_) <;> first | with_reducible assumption | omega | (simp only [InK_i64, InK_u64, InK_u8]; omega) | (unfold sz; omega) | exact True.intro) ?_)
    exact ex_le (by (repeat' (first | exact Le.refl _ | exact Le.nilS _ _ | exact Le.tight | refine Le.tuple ?_ | refine Le.list ?_ | refine Le.agg ?_ | refine LeL.cons ?_ ?_ | exact LeL.nil)))
noncomputable def tab_most7 : Tab := tabOf (fun p : (Int) × (List Int) => match p with | (n, L) => [intP n, ints L]) (fun p : (Int) × (List Int) => match p with | (n, L) => sz L.length) (fun p : (Int) × (List Int) => match p with | (n, L) => resLL (mostM n L))
theorem tab_most7_eq (n : Int) (L : List Int) : tab_most7 [intP n, ints L] = some (sz L.length, .p (resLL (mostM n L))) := tabOf_eq (enc := fun p : (Int) × (List Int) => match p with | (n, L) => [intP n, ints L]) (pre := fun p : (Int) × (List Int) => match p with | (n, L) => sz L.length) (out := fun p : (Int) × (List Int) => match p with | (n, L) => resLL (mostM n L)) (by rintro ⟨n, L⟩ ⟨n', L'⟩ h; simp at h; first | (simp [h]; done) | omega | (simp [h]; omega)) (n, L)
theorem tab_most7_ok : TabOK Tryd.prog 26 tab_most7 := tabOf_ok (by rintro ⟨n, L⟩ h; exact most7_spec n L h)
noncomputable abbrev ent_most7 : FuncId × List Nat × Tab := (26, [0, 1], tab_most7)
attribute [go_sem] tab_most7_eq
end Go.V

namespace Go.V
open Go.Proofs
set_option maxRecDepth 100000
set_option maxHeartbeats 4000000

def freeB (lot x : List Int) : Bool := lot.all fun y => !(x.any (· == y))
def apartL (lots : List (List Int)) (lot : List Int) : List (List Int) := lots.filter (freeB lot)
theorem apartL_snoc (l : List (List Int)) (lot x : List Int) : apartL (l ++ [x]) lot = apartL l lot ++ if freeB lot x = true then [x] else [] := by
  unfold apartL; rw [List.filter_append, List.filter_cons, List.filter_nil]
structure LotsOK (lots : List (List Int)) : Prop where
  len : lots.length ≤ 4096
  each : ∀ l ∈ lots, l.length ≤ 12

theorem apart7_spec (lots : List (List Int)) (lot : List Int) (hpre : LotsOK lots ∧ lot.length ≤ 12) : Ret Tryd.prog 88 [lists lots, ints lot] (lists (apartL lots lot)) := by
  refine fn_of (T := [ent_has7]) (N := 43) (RO := [40]) (CH := [7]) (KS := [0, 1, 4, 5, 6, 7, 8, 12, 18, 34]) (NS := [4, 5, 41]) (fun args w => Tryd.call88 args w) Tryd.func88 rfl rfl (by simp) mixed (by kernel_rfl) ⟨tab_has7_ok, trivial⟩ ?_
  simp only [go_sem, ↓reduceIte, Nat.reduceLT, Nat.reduceLeDiff, Nat.reduceEqDiff, Nat.reduceAdd, Nat.reduceSub, Nat.reduceDiv, Nat.reduceMod, Nat.reduceMul, Nat.reduceBEq, Nat.reduceBNe, reduceCtorEq, Int.reduceLT, Int.reduceLE, Int.reduceEq, Int.reduceNe, Int.reduceBEq, Int.reduceBNe, Int.reduceAdd, Int.reduceSub, Int.reduceNeg, Int.reduceToNat]
  obtain ⟨ok, h12⟩ := hpre
  have hl4 := ok.len
  refine vfor [0,1,5,6] [5] [.nilS 5 22 1] lots.length (fun _ => True) (fun i => ⟨[(0,.p (lists lots)),(1,.p (ints lot)),(5,.sl 5),(6,.p (natP i))], [(5,.vec 22 1 (lof ints (apartL (lots.take i) lot)))]⟩) (by first | rfl | (simp only [go_sem, ↓reduceIte, Nat.reduceLT, Nat.reduceLeDiff, Nat.reduceEqDiff, Nat.reduceAdd, Nat.reduceSub, Nat.reduceDiv, Nat.reduceMod, Nat.reduceMul, Nat.reduceBEq, Nat.reduceBNe, reduceCtorEq, Int.reduceLT, Int.reduceLE, Int.reduceEq, Int.reduceNe, Int.reduceBEq, Int.reduceBNe, Int.reduceAdd, Int.reduceSub, Int.reduceNeg, Int.reduceToNat]; first | done | rfl)) trivial ?_
  intro i hi _
  by_cases hlt : i < lots.length
  · obtain ⟨x, hx⟩ := get_some hlt
    have hx12 := ok.each x (List.mem_of_getElem? hx)
    have hs := apartL_snoc (lots.take i) lot x
    rw [← take_succ_of hx] at hs
    have hal : (apartL (lots.take i) lot).length ≤ i := Nat.le_trans (List.length_filter_le _ _) (by simp; omega)
    simp only [go_sem, ↓reduceIte, Nat.reduceLT, Nat.reduceLeDiff, Nat.reduceEqDiff, Nat.reduceAdd, Nat.reduceSub, Nat.reduceDiv, Nat.reduceMod, Nat.reduceMul, Nat.reduceBEq, Nat.reduceBNe, reduceCtorEq, Int.reduceLT, Int.reduceLE, Int.reduceEq, Int.reduceNe, Int.reduceBEq, Int.reduceBNe, Int.reduceAdd, Int.reduceSub, Int.reduceNeg, Int.reduceToNat, hlt]
    refine vfor [0,1,5,6,7,8] [5] [] lot.length (fun _ => True) (fun j => ⟨[(0,.p (lists lots)),(1,.p (ints lot)),(5,.sl 5),(6,.p (natP i)),(7,.p (boolP (freeB (lot.take j) x))),(8,.p (natP j))], [(5,.vec 22 1 (lof ints (apartL (lots.take i) lot)))]⟩) (by first | rfl | (simp only [go_sem, ↓reduceIte, Nat.reduceLT, Nat.reduceLeDiff, Nat.reduceEqDiff, Nat.reduceAdd, Nat.reduceSub, Nat.reduceDiv, Nat.reduceMod, Nat.reduceMul, Nat.reduceBEq, Nat.reduceBNe, reduceCtorEq, Int.reduceLT, Int.reduceLE, Int.reduceEq, Int.reduceNe, Int.reduceBEq, Int.reduceBNe, Int.reduceAdd, Int.reduceSub, Int.reduceNeg, Int.reduceToNat, freeB, List.take_zero, List.all_nil]; first | done | rfl)) trivial ?_
    intro j hj _
    by_cases hjl : j < lot.length
    · obtain ⟨y, hy⟩ := get_some hjl
      have hf : freeB (lot.take (j + 1)) x = (freeB (lot.take j) x && !(x.any (· == y))) := by unfold freeB; rw [take_succ_of hy, List.all_append]; simp
      cases hb : freeB (lot.take j) x with
      | false =>
        rw [hb, Bool.false_and] at hf
        simp only [go_sem, ↓reduceIte, Nat.reduceLT, Nat.reduceLeDiff, Nat.reduceEqDiff, Nat.reduceAdd, Nat.reduceSub, Nat.reduceDiv, Nat.reduceMod, Nat.reduceMul, Nat.reduceBEq, Nat.reduceBNe, reduceCtorEq, Int.reduceLT, Int.reduceLE, Int.reduceEq, Int.reduceNe, Int.reduceBEq, Int.reduceBNe, Int.reduceAdd, Int.reduceSub, Int.reduceNeg, Int.reduceToNat, hjl, hb]
        rw [hf]
        exact ⟨by rw [InK_i64]; omega, rfl⟩
      | true =>
        rw [hb, Bool.true_and] at hf
        simp only [go_sem, ↓reduceIte, Nat.reduceLT, Nat.reduceLeDiff, Nat.reduceEqDiff, Nat.reduceAdd, Nat.reduceSub, Nat.reduceDiv, Nat.reduceMod, Nat.reduceMul, Nat.reduceBEq, Nat.reduceBNe, reduceCtorEq, Int.reduceLT, Int.reduceLE, Int.reduceEq, Int.reduceNe, Int.reduceBEq, Int.reduceBNe, Int.reduceAdd, Int.reduceSub, Int.reduceNeg, Int.reduceToNat, hjl, hb, lof_getD hx, lof_getD hy]
        rw [hf]
        have hsx : sz x.length := by unfold sz; omega
        exact ⟨hlt, hsx, by rw [InK_i64]; omega, rfl⟩
    · obtain rfl : j = lot.length := by omega
      rw [List.take_length]
      cases hb : freeB lot x with
      | false =>
        rw [hb] at hs
        simp only [go_sem, ↓reduceIte, Nat.reduceLT, Nat.reduceLeDiff, Nat.reduceEqDiff, Nat.reduceAdd, Nat.reduceSub, Nat.reduceDiv, Nat.reduceMod, Nat.reduceMul, Nat.reduceBEq, Nat.reduceBNe, reduceCtorEq, Int.reduceLT, Int.reduceLE, Int.reduceEq, Int.reduceNe, Int.reduceBEq, Int.reduceBNe, Int.reduceAdd, Int.reduceSub, Int.reduceNeg, Int.reduceToNat, Nat.lt_irrefl]
        rw [hs]
        exact ⟨by rw [InK_i64]; omega, hlt, by simp⟩
      | true =>
        rw [hb] at hs
        simp only [go_sem, ↓reduceIte, Nat.reduceLT, Nat.reduceLeDiff, Nat.reduceEqDiff, Nat.reduceAdd, Nat.reduceSub, Nat.reduceDiv, Nat.reduceMod, Nat.reduceMul, Nat.reduceBEq, Nat.reduceBNe, reduceCtorEq, Int.reduceLT, Int.reduceLE, Int.reduceEq, Int.reduceNe, Int.reduceBEq, Int.reduceBNe, Int.reduceAdd, Int.reduceSub, Int.reduceNeg, Int.reduceToNat, Nat.lt_irrefl, lof_getD hx]
        rw [hs]
        exact ⟨hlt, by omega, by rw [InK_i64]; omega, hlt, by simp [lof]⟩
  · obtain rfl : i = lots.length := by omega
    rw [List.take_length]
    simp only [go_sem, ↓reduceIte, Nat.reduceLT, Nat.reduceLeDiff, Nat.reduceEqDiff, Nat.reduceAdd, Nat.reduceSub, Nat.reduceDiv, Nat.reduceMod, Nat.reduceMul, Nat.reduceBEq, Nat.reduceBNe, reduceCtorEq, Int.reduceLT, Int.reduceLE, Int.reduceEq, Int.reduceNe, Int.reduceBEq, Int.reduceBNe, Int.reduceAdd, Int.reduceSub, Int.reduceNeg, Int.reduceToNat, Nat.lt_irrefl]
    exact ex_le_refl rfl
noncomputable def tab_apart7 : Tab := tabOf (fun p : (List (List Int)) × (List Int) => match p with | (lots, lot) => [lists lots, ints lot]) (fun p : (List (List Int)) × (List Int) => match p with | (lots, lot) => LotsOK lots ∧ lot.length ≤ 12) (fun p : (List (List Int)) × (List Int) => match p with | (lots, lot) => lists (apartL lots lot))
theorem tab_apart7_eq (lots : List (List Int)) (lot : List Int) : tab_apart7 [lists lots, ints lot] = some (LotsOK lots ∧ lot.length ≤ 12, .p (lists (apartL lots lot))) := tabOf_eq (enc := fun p : (List (List Int)) × (List Int) => match p with | (lots, lot) => [lists lots, ints lot]) (pre := fun p : (List (List Int)) × (List Int) => match p with | (lots, lot) => LotsOK lots ∧ lot.length ≤ 12) (out := fun p : (List (List Int)) × (List Int) => match p with | (lots, lot) => lists (apartL lots lot)) (by rintro ⟨lots, lot⟩ ⟨lots', lot'⟩ h; simp at h; first | (simp [h]; done) | omega | (simp [h]; omega)) (lots, lot)
theorem tab_apart7_ok : TabOK Tryd.prog 88 tab_apart7 := tabOf_ok (by rintro ⟨lots, lot⟩ h; exact apart7_spec lots lot h)
noncomputable abbrev ent_apart7 : FuncId × List Nat × Tab := (88, [1, 1], tab_apart7)
attribute [go_sem] tab_apart7_eq

/-- the first list of so many lots, one after the other -/
def firstL : List (List Int) → Nat → Option (List (List Int))
  | _, 0 => some []
  | [], _ + 1 => none
  | l :: w, k + 1 => match firstL (apartL w l) k with
    | some r => some (l :: r)
    | none => firstL w (k + 1)
termination_by w k => (w.length, k)
decreasing_by
  all_goals simp_wf
  · have := List.length_filter_le (freeB l) w
    exact Prod.Lex.left _ _ (by unfold apartL; omega)
  · exact Prod.Lex.left _ _ (by omega)
theorem firstL_zero (w : List (List Int)) : firstL w 0 = some [] := by cases w <;> rw [firstL]
theorem firstL_nil (k : Nat) : firstL [] (k + 1) = none := by rw [firstL]
theorem firstL_cons (l : List Int) (w : List (List Int)) (k : Nat) : firstL (l :: w) (k + 1) = match firstL (apartL w l) k with
    | some r => some (l :: r)
    | none => firstL w (k + 1) := by rw [firstL]
theorem firstL_length : ∀ (n : Nat) (w : List (List Int)) (k : Nat) (r : List (List Int)), w.length ≤ n → firstL w k = some r → r.length = k
  | n, w, 0, r, _, h => by rw [firstL_zero] at h; cases h; rfl
  | _, [], k + 1, r, _, h => by rw [firstL_nil] at h; cases h
  | n + 1, l :: w, k + 1, r, hn, h => by
    rw [firstL_cons] at h
    simp only [List.length_cons] at hn
    cases hf : firstL (apartL w l) k with
    | some r' =>
      rw [hf] at h; cases h
      have := firstL_length n _ k r' (by have := List.length_filter_le (freeB l) w; unfold apartL; omega) hf
      simp [this]
    | none => rw [hf] at h; exact firstL_length n w (k + 1) r (by omega) h
def mostR (w : List (List Int)) (k : Nat) : List (List Int) × Bool := match firstL w k with
  | some r => (r, true)
  | none => ([], false)
abbrev mostP (r : List (List Int) × Bool) : PV := .tuple [lists r.1, boolP r.2]
theorem LotsOK.drop {w : List (List Int)} (h : LotsOK w) (i : Nat) : LotsOK (w.drop i) := ⟨by have := h.len; rw [List.length_drop]; omega, fun l hl => h.each l (List.mem_of_mem_drop hl)⟩
theorem LotsOK.apart {w : List (List Int)} (h : LotsOK w) (l : List Int) : LotsOK (apartL w l) := ⟨Nat.le_trans (List.length_filter_le _ _) h.len, fun x hx => h.each x (List.mem_filter.1 hx).1⟩
noncomputable def tab_most (k : Nat) : Tab := tabOf (fun p : List (List Int) × Nat => match p with | (w, m) => [lists w, natP m]) (fun p => match p with | (w, m) => LotsOK w ∧ m < k) (fun p => match p with | (w, m) => mostP (mostR w m))
@[go_sem] theorem tab_most_eq (k : Nat) (w : List (List Int)) (m : Nat) : tab_most k [lists w, natP m] = some (LotsOK w ∧ m < k, .p (mostP (mostR w m))) :=
  tabOf_eq (enc := fun p : List (List Int) × Nat => match p with | (w, m) => [lists w, natP m]) (pre := fun p => match p with | (w, m) => LotsOK w ∧ m < k) (out := fun p => match p with | (w, m) => mostP (mostR w m)) (by
    rintro ⟨w, m⟩ ⟨w', m'⟩ h
    simp at h
    rw [h.1, show m = m' by omega]) (w, m)
theorem tab_most_ok (k : Nat) (ih : ∀ (w : List (List Int)) (m : Nat), LotsOK w → m < k → Ret Tryd.prog 67 [lists w, natP m] (mostP (mostR w m))) : TabOK Tryd.prog 67 (tab_most k) :=
  tabOf_ok (by rintro ⟨w, m⟩ h; exact ih w m h.1 h.2)
theorem most_rec (k : Nat) (ih : ∀ (w : List (List Int)) (m : Nat), LotsOK w → m < k → Ret Tryd.prog 67 [lists w, natP m] (mostP (mostR w m))) (hk : k ≤ 4096) (w : List (List Int)) (ok : LotsOK w) :
    Ret Tryd.prog 67 [lists w, natP k] (mostP (mostR w k)) := by
  refine fn_of (T := [ent_apart7, (67, [1, 0], tab_most k)]) (N := 40) (RO := []) (CH := [7, 8]) (KS := [0, 1, 4, 5, 6, 7, 8, 10, 14, 32]) (NS := [4, 37, 39]) (fun args w => Tryd.call67 args w) Tryd.func67 rfl rfl (by simp) mixed (by kernel_rfl) ⟨tab_apart7_ok, tab_most_ok k ih, trivial⟩ ?_
  simp only [go_sem, ↓reduceIte, Nat.reduceLT, Nat.reduceLeDiff, Nat.reduceEqDiff, Nat.reduceAdd, Nat.reduceSub, Nat.reduceDiv, Nat.reduceMod, Nat.reduceMul, Nat.reduceBEq, Nat.reduceBNe, reduceCtorEq, Int.reduceLT, Int.reduceLE, Int.reduceEq, Int.reduceNe, Int.reduceBEq, Int.reduceBNe, Int.reduceAdd, Int.reduceSub, Int.reduceNeg, Int.reduceToNat]
  have hl4 := ok.len
  cases k with
  | zero =>
    have e : mostR w 0 = ([], true) := by unfold mostR; rw [firstL_zero]
    rw [e]
    simp only [go_sem, ↓reduceIte, Nat.reduceLT, Nat.reduceLeDiff, Nat.reduceEqDiff, Nat.reduceAdd, Nat.reduceSub, Nat.reduceDiv, Nat.reduceMod, Nat.reduceMul, Nat.reduceBEq, Nat.reduceBNe, reduceCtorEq, Int.reduceLT, Int.reduceLE, Int.reduceEq, Int.reduceNe, Int.reduceBEq, Int.reduceBNe, Int.reduceAdd, Int.reduceSub, Int.reduceNeg, Int.reduceToNat, Int.ofNat_zero]
    exact ex_le (by (repeat' (first | exact Le.refl _ | exact Le.nilS _ _ | exact Le.tight | refine Le.tuple ?_ | refine Le.list ?_ | refine Le.agg ?_ | refine LeL.cons ?_ ?_ | exact LeL.nil)))
  | succ k =>
    have hkb : (((k + 1 : Nat) : Int) == 0) = false := by rw [beq_eq_false_iff_ne]; omega
    have ek : ((k + 1 : Nat) : Int) - 1 = (k : Int) := by omega
    simp only [go_sem, ↓reduceIte, Nat.reduceLT, Nat.reduceLeDiff, Nat.reduceEqDiff, Nat.reduceAdd, Nat.reduceSub, Nat.reduceDiv, Nat.reduceMod, Nat.reduceMul, Nat.reduceBEq, Nat.reduceBNe, reduceCtorEq, Int.reduceLT, Int.reduceLE, Int.reduceEq, Int.reduceNe, Int.reduceBEq, Int.reduceBNe, Int.reduceAdd, Int.reduceSub, Int.reduceNeg, Int.reduceToNat, hkb]
    refine vfor [0,1,6] [] [] w.length (fun i => firstL w (k + 1) = firstL (w.drop i) (k + 1)) (fun i => ⟨[(0,.p (lists w)),(1,.p (natP (k + 1))),(6,.p (natP i))], []⟩) (by first | rfl | (simp only [go_sem, ↓reduceIte, Nat.reduceLT, Nat.reduceLeDiff, Nat.reduceEqDiff, Nat.reduceAdd, Nat.reduceSub, Nat.reduceDiv, Nat.reduceMod, Nat.reduceMul, Nat.reduceBEq, Nat.reduceBNe, reduceCtorEq, Int.reduceLT, Int.reduceLE, Int.reduceEq, Int.reduceNe, Int.reduceBEq, Int.reduceBNe, Int.reduceAdd, Int.reduceSub, Int.reduceNeg, Int.reduceToNat]; first | done | rfl)) rfl ?_
    intro i hi hI
    by_cases hlt : i < w.length
    · obtain ⟨x, hx⟩ := get_some hlt
      have hx12 := ok.each x (List.mem_of_getElem? hx)
      have hd : w.drop i = x :: w.drop (i + 1) := by rw [List.drop_eq_getElem_cons hlt]; simp [List.getElem?_eq_getElem hlt] at hx; rw [hx]
      rw [hd, firstL_cons] at hI
      have okd := ok.drop (i + 1)
      have oka := okd.apart x
      have e1 : ((i : Int) + 1).toNat = i + 1 := by omega
      cases hf : firstL (apartL (w.drop (i + 1)) x) k with
      | some r =>
        rw [hf] at hI
        simp only at hI
        have e : mostR (apartL (w.drop (i + 1)) x) k = (r, true) := by unfold mostR; rw [hf]
        have e2 : mostR w (k + 1) = (x :: r, true) := by unfold mostR; rw [hI]
        have hrl := firstL_length _ _ _ _ (Nat.le_refl _) hf
        rw [e2]
        simp only [go_sem, ↓reduceIte, Nat.reduceLT, Nat.reduceLeDiff, Nat.reduceEqDiff, Nat.reduceAdd, Nat.reduceSub, Nat.reduceDiv, Nat.reduceMod, Nat.reduceMul, Nat.reduceBEq, Nat.reduceBNe, reduceCtorEq, Int.reduceLT, Int.reduceLE, Int.reduceEq, Int.reduceNe, Int.reduceBEq, Int.reduceBNe, Int.reduceAdd, Int.reduceSub, Int.reduceNeg, Int.reduceToNat, hlt, e1, lof_drop, lof_getD hx, ek, e]
        exact ⟨by rw [InK_i64]; omega, by omega, ⟨okd, hx12⟩, by rw [InK_i64]; omega, ⟨oka, by omega⟩, by omega, ex_le_refl rfl⟩
      | none =>
        rw [hf] at hI
        simp only at hI
        have e : mostR (apartL (w.drop (i + 1)) x) k = ([], false) := by unfold mostR; rw [hf]
        simp only [go_sem, ↓reduceIte, Nat.reduceLT, Nat.reduceLeDiff, Nat.reduceEqDiff, Nat.reduceAdd, Nat.reduceSub, Nat.reduceDiv, Nat.reduceMod, Nat.reduceMul, Nat.reduceBEq, Nat.reduceBNe, reduceCtorEq, Int.reduceLT, Int.reduceLE, Int.reduceEq, Int.reduceNe, Int.reduceBEq, Int.reduceBNe, Int.reduceAdd, Int.reduceSub, Int.reduceNeg, Int.reduceToNat, hlt, e1, lof_drop, lof_getD hx, ek, e]
        exact ⟨by rw [InK_i64]; omega, by omega, ⟨okd, hx12⟩, by rw [InK_i64]; omega, ⟨oka, by omega⟩, by rw [InK_i64]; omega, hI, rfl⟩
    · obtain rfl : i = w.length := by omega
      rw [List.drop_length, firstL_nil] at hI
      have e2 : mostR w (k + 1) = ([], false) := by unfold mostR; rw [hI]
      rw [e2]
      simp only [go_sem, ↓reduceIte, Nat.reduceLT, Nat.reduceLeDiff, Nat.reduceEqDiff, Nat.reduceAdd, Nat.reduceSub, Nat.reduceDiv, Nat.reduceMod, Nat.reduceMul, Nat.reduceBEq, Nat.reduceBNe, reduceCtorEq, Int.reduceLT, Int.reduceLE, Int.reduceEq, Int.reduceNe, Int.reduceBEq, Int.reduceBNe, Int.reduceAdd, Int.reduceSub, Int.reduceNeg, Int.reduceToNat, Nat.lt_irrefl]
      exact ex_le (by (repeat' (first | exact Le.refl _ | exact Le.nilS _ _ | exact Le.tight | refine Le.tuple ?_ | refine Le.list ?_ | refine Le.agg ?_ | refine LeL.cons ?_ ?_ | exact LeL.nil)))
theorem most_all : ∀ (k : Nat), k ≤ 4096 → ∀ (w : List (List Int)) (m : Nat), LotsOK w → m < k → Ret Tryd.prog 67 [lists w, natP m] (mostP (mostR w m))
  | 0, _, w, m, _, h => absurd h (Nat.not_lt_zero _)
  | k + 1, hk, w, m, ok, h => by
    by_cases e : m = k
    · subst e; exact most_rec m (most_all m (by omega)) (by omega) w ok
    · exact most_all k (by omega) w m ok (by omega)

/-! ### sets and lists -/
theorem freeB_disj {l x : Nat} (hl : l < 4096) : freeB (onI l) (onI x) = R7.disj l x := by
  rw [Bool.eq_iff_iff, R7.disj_iff]
  unfold freeB
  rw [List.all_eq_true]
  constructor
  · intro h i hi hx
    have h12 : i < 12 := Classical.byContradiction fun hc => by
      rw [R7.testBit_big hl (by omega)] at hi; cases hi
    have h1 := h (i : Int) (List.mem_map.2 ⟨i, R7.mem_ones.2 ⟨h12, hi⟩, rfl⟩)
    rw [Bool.not_eq_true', List.any_eq_false] at h1
    exact h1 (i : Int) (List.mem_map.2 ⟨i, R7.mem_ones.2 ⟨h12, hx⟩, rfl⟩) (by simp)
  · intro h y hy
    obtain ⟨i, hi, rfl⟩ := List.mem_map.1 hy
    rw [Bool.not_eq_true', List.any_eq_false]
    intro z hz e
    obtain ⟨j, hj, rfl⟩ := List.mem_map.1 hz
    have : j = i := by
      have : (Int.ofNat j) = Int.ofNat i := by simpa using e
      exact Int.ofNat.inj this
    subst this
    exact h j (R7.mem_ones.1 hi).2 (R7.mem_ones.1 hj).2
theorem apartL_sets {w : List Nat} {l : Nat} (hl : l < 4096) : apartL (w.map onI) (onI l) = (w.filter (R7.disj l)).map onI := by
  unfold apartL
  rw [List.filter_map]
  congr 1
  refine List.filter_congr fun x _ => ?_
  exact freeB_disj hl
theorem firstL_sets : ∀ (n : Nat) (w : List Nat) (k : Nat), w.length ≤ n → (∀ x ∈ w, x < 4096) → firstL (w.map onI) k = (R7.first w k).map fun r => r.map onI
  | n, w, 0, _, _ => by rw [firstL_zero, R7.first_zero]; rfl
  | _, [], k + 1, _, _ => by rw [List.map_nil, firstL_nil, R7.first_nil]; rfl
  | n + 1, l :: w, k + 1, hn, hlt => by
    simp only [List.length_cons] at hn
    rw [List.map_cons, firstL_cons, R7.first_cons, apartL_sets (hlt l (by simp)),
      firstL_sets n (w.filter (R7.disj l)) k (by have := List.length_filter_le (R7.disj l) w; omega) (fun x hx => hlt x (by have := (List.mem_filter.1 hx).1; simp [this])),
      firstL_sets n w (k + 1) (by omega) (fun x hx => hlt x (by simp [hx]))]
    cases R7.first (w.filter (R7.disj l)) k with
    | some r => rfl
    | none => rfl
theorem flat_nodup : ∀ (r : List Nat), (r.Pairwise fun a b => R7.disj a b = true) → (r.flatMap R7.ones).Nodup
  | [], _ => by simp
  | a :: r, h => by
    rw [List.pairwise_cons] at h
    rw [List.flatMap_cons, List.nodup_append]
    refine ⟨(R7.ones_asc a).imp fun h => Nat.ne_of_lt h, flat_nodup r h.2, fun x hx y hy e => ?_⟩
    subst e
    obtain ⟨b, hb, hxb⟩ := List.mem_flatMap.1 hy
    exact R7.disj_iff.1 (h.1 b hb) x (R7.mem_ones.1 hx).2 (R7.mem_ones.1 hxb).2
theorem flat_length {m : Nat} : ∀ (r : List Nat), (∀ x ∈ r, (R7.ones x).length = m) → (r.flatMap R7.ones).length = m * r.length
  | [], _ => by simp
  | a :: r, h => by rw [List.flatMap_cons, List.length_append, flat_length r (fun x hx => h x (by simp [hx])), h a (by simp), List.length_cons, Nat.mul_succ]; omega
theorem mx_div {n : Nat} {L : List Int} (hn : 1 ≤ n) (h12 : L.length ≤ 12) : R7.mx (R7.wset n L n) (2 ^ L.length - 1) ≤ L.length / n := by
  have h0 := wset_ne hn h12
  obtain ⟨F, hF, hl⟩ := (R7.mx_most h0).att (2 ^ L.length - 1)
  have h1 := flat_nodup F hF.dis
  have h2 := flat_length F (m := n) (fun x hx => R7.wset_len h12 (hF.mem x hx).1)
  have h3 := R7.nodup_lt L.length (F.flatMap R7.ones) h1 fun x hx => by
    obtain ⟨b, hb, hxb⟩ := List.mem_flatMap.1 hx
    exact R7.ones_lt (R7.wset_lt h12 (hF.mem b hb).1) x hxb
  rw [← hl]
  rw [Nat.le_div_iff_mul_le (by omega), Nat.mul_comm]
  omega
theorem sub_full {d x : Nat} (h : x < 2 ^ d) : R7.sub x (2 ^ d - 1) = true := by
  rw [R7.sub_iff]
  intro i hi
  rw [Nat.testBit_two_pow_sub_one, decide_eq_true_eq]
  exact Classical.byContradiction fun hc => by
    rw [Nat.testBit_lt_two_pow (Nat.lt_of_lt_of_le h (Nat.pow_le_pow_right (by omega) (by omega)))] at hi
    cases hi
/-- the greatest number of lots for which there are some -/
theorem most_found {n : Nat} {L : List Int} (hn : 1 ≤ n) (h12 : L.length ≤ 12) {d : Nat} {r : List (List Int)} (hd : ∀ k, d < k → k ≤ L.length / n → firstL ((R7.whole n L n).map ofN) k = none) (hr : firstL ((R7.whole n L n).map ofN) d = some r) : r = (mostL n L).map onI := by
  have h0 := wset_ne (L := L) hn h12
  have hlt : ∀ x ∈ R7.wset n L n, x < 2 ^ L.length := fun x hx => R7.wset_lt h12 hx
  have hp := R7.pow12 h12
  have hw : (R7.whole n L n).map ofN = (R7.wset n L n).map onI := by rw [← R7.wset_ones h12, List.map_map]; rfl
  have hfs := fun k => firstL_sets _ (R7.wset n L n) k (Nat.le_refl _) (fun x hx => by have := hlt x hx; omega)
  rw [hw, hfs] at hr
  have hM := R7.mx_most h0
  have hsub : ∀ x ∈ R7.wset n L n, R7.sub x (2 ^ L.length - 1) = true := fun x hx => sub_full (hlt x hx)
  have hg := R7.greedy_first hM h0 (R7.wset n L n) (2 ^ L.length - 1) (fun x hx => hx) (fun F hF _ x hx => (hF.mem x hx).1)
  rw [List.filter_eq_self.2 hsub] at hg
  have hle := mx_div (L := L) hn h12
  have hdm : d = R7.mx (R7.wset n L n) (2 ^ L.length - 1) := by
    rcases Nat.lt_trichotomy d (R7.mx (R7.wset n L n) (2 ^ L.length - 1)) with h | h | h
    · have := hd _ h hle
      rw [hw, hfs, hg] at this
      cases this
    · exact h
    · rw [R7.first_none hM hsub h] at hr
      cases hr
  rw [hdm, hg] at hr
  cases hr
  rfl

theorem rMost_spec (n : Int) (L : List Int) (hpre : sz L.length) : Ret Tryd.prog 27 [intP n, ints L] (resLL (mostM n L)) := by
  refine fn_of (T := [ent_check7r, ent_whole7, (67, [1, 0], tab_most 4096)]) (N := 42) (RO := []) (CH := []) (KS := [0, 1, 4, 5, 6, 7, 8, 9, 10, 15, 32]) (NS := []) (fun args w => Tryd.call27 args w) Tryd.func27 rfl rfl (by simp) mixed (by kernel_rfl) ⟨tab_check7r_ok, tab_whole7_ok, tab_most_ok 4096 (most_all 4096 (by omega)), trivial⟩ ?_
  simp only [go_sem, ↓reduceIte, Nat.reduceLT, Nat.reduceLeDiff, Nat.reduceEqDiff, Nat.reduceAdd, Nat.reduceSub, Nat.reduceDiv, Nat.reduceMod, Nat.reduceMul, Nat.reduceBEq, Nat.reduceBNe, reduceCtorEq, Int.reduceLT, Int.reduceLE, Int.reduceEq, Int.reduceNe, Int.reduceBEq, Int.reduceBNe, Int.reduceAdd, Int.reduceSub, Int.reduceNeg, Int.reduceToNat]
  by_cases hc : checkS n L = 0
  · obtain ⟨m, rfl⟩ := nat_of hc
    have ok := Okl.of hc
    have h12 := ok.len
    have hn1 := ok.n1
    have hn6 := ok.n6
    have hm : mostM (m : Int) L = _ := if_pos hc
    rw [Int.toNat_natCast] at hm
    rw [hm]
    have hwz := whole_sz (n := m) (k := m) h12
    have hmf := fun d r => most_found (L := L) (d := d) (r := r) hn1 h12
    have hok : LotsOK ((R7.whole m L m).map ofN) := ⟨by rw [List.length_map]; exact hwz, fun l hl => by
      obtain ⟨x, hx, rfl⟩ := List.mem_map.1 hl
      rw [ofN_length, (R7.whole_mem12 h12 hx).2.2]; omega⟩
    have hdiv : (L.length : Int) / (m : Int) = ((L.length / m : Nat) : Int) := by simp
    have hdl : L.length / m ≤ 12 := Nat.le_trans (Nat.div_le_self _ _) h12
    simp only [go_sem, ↓reduceIte, Nat.reduceLT, Nat.reduceLeDiff, Nat.reduceEqDiff, Nat.reduceAdd, Nat.reduceSub, Nat.reduceDiv, Nat.reduceMod, Nat.reduceMul, Nat.reduceBEq, Nat.reduceBNe, reduceCtorEq, Int.reduceLT, Int.reduceLE, Int.reduceEq, Int.reduceNe, Int.reduceBEq, Int.reduceBNe, Int.reduceAdd, Int.reduceSub, Int.reduceNeg, Int.reduceToNat, hc, hdiv]
    generalize (R7.whole m L m).map ofN = W at *
    generalize L.length / m = D at *
    have hsz := hpre
    refine ⟨hsz, ⟨ok, by omega⟩, ⟨by omega, by rw [InK_i64]; omega⟩, ⟨hok, by omega⟩, ?_⟩
    refine vwhile [7,8,9,10] [] [] (fun d : Nat => d ≤ D ∧ ∀ k, d < k → k ≤ D → firstL W k = none) (fun d => d) (fun d => ⟨[(7,.p (lists W)),(8,.p (natP d)),(9,.p (lists (mostR W d).1)),(10,.p (boolP (mostR W d).2))], []⟩) D (by first | rfl | (simp only [go_sem, ↓reduceIte, Nat.reduceLT, Nat.reduceLeDiff, Nat.reduceEqDiff, Nat.reduceAdd, Nat.reduceSub, Nat.reduceDiv, Nat.reduceMod, Nat.reduceMul, Nat.reduceBEq, Nat.reduceBNe, reduceCtorEq, Int.reduceLT, Int.reduceLE, Int.reduceEq, Int.reduceNe, Int.reduceBEq, Int.reduceBNe, Int.reduceAdd, Int.reduceSub, Int.reduceNeg, Int.reduceToNat]; first | done | rfl)) ⟨Nat.le_refl _, fun k h1 h2 => by omega⟩ ?_
    rintro d ⟨hd, hI⟩
    cases hf : firstL W d with
    | some r =>
      have e : mostR W d = (r, true) := by unfold mostR; rw [hf]
      have hr := hmf d r hI hf
      rw [e]
      simp only [go_sem, ↓reduceIte, Nat.reduceLT, Nat.reduceLeDiff, Nat.reduceEqDiff, Nat.reduceAdd, Nat.reduceSub, Nat.reduceDiv, Nat.reduceMod, Nat.reduceMul, Nat.reduceBEq, Nat.reduceBNe, reduceCtorEq, Int.reduceLT, Int.reduceLE, Int.reduceEq, Int.reduceNe, Int.reduceBEq, Int.reduceBNe, Int.reduceAdd, Int.reduceSub, Int.reduceNeg, Int.reduceToNat]
      exact ex_le_refl (by rw [hr])
    | none =>
      have e : mostR W d = ([], false) := by unfold mostR; rw [hf]
      have hd0 : d ≠ 0 := fun h => by subst h; rw [firstL_zero] at hf; cases hf
      have ed : (d : Int) - 1 = ((d - 1 : Nat) : Int) := by omega
      rw [e]
      simp only [go_sem, ↓reduceIte, Nat.reduceLT, Nat.reduceLeDiff, Nat.reduceEqDiff, Nat.reduceAdd, Nat.reduceSub, Nat.reduceDiv, Nat.reduceMod, Nat.reduceMul, Nat.reduceBEq, Nat.reduceBNe, reduceCtorEq, Int.reduceLT, Int.reduceLE, Int.reduceEq, Int.reduceNe, Int.reduceBEq, Int.reduceBNe, Int.reduceAdd, Int.reduceSub, Int.reduceNeg, Int.reduceToNat, ed]
      exact ⟨by rw [InK_i64]; omega, ⟨hok, by omega⟩, d - 1, by omega, ⟨by omega, fun k h1 h2 => by
        by_cases h3 : k = d
        · subst h3; exact hf
        · exact hI k (by omega) h2⟩, rfl⟩
  · have hm : mostM n L = ([], checkS n L) := if_neg hc
    have hcb : (checkS n L != 0) = true := by simp [hc]
    rw [hm]
    simp only [go_sem, ↓reduceIte, Nat.reduceLT, Nat.reduceLeDiff, Nat.reduceEqDiff, Nat.reduceAdd, Nat.reduceSub, Nat.reduceDiv, Nat.reduceMod, Nat.reduceMul, Nat.reduceBEq, Nat.reduceBNe, reduceCtorEq, Int.reduceLT, Int.reduceLE, Int.reduceEq, Int.reduceNe, Int.reduceBEq, Int.reduceBNe, Int.reduceAdd, Int.reduceSub, Int.reduceNeg, Int.reduceToNat, hcb]
    (repeat with_reducible refine And.intro (by (repeat' with_reducible refine And.intro ?_ ?_) <;> first | with_reducible assumption | omega | (simp only [InK_i64, InK_u64, InK_u8]; omega) | (unfold sz; omega) | exact True.intro) ?_)
    exact ex_le (by (repeat' (first | exact Le.refl _ | exact Le.nilS _ _ | exact Le.tight | refine Le.tuple ?_ | refine Le.list ?_ | refine Le.agg ?_ | refine LeL.cons ?_ ?_ | exact LeL.nil)))
noncomputable def tab_rMost : Tab := tabOf (fun p : (Int) × (List Int) => match p with | (n, L) => [intP n, ints L]) (fun p : (Int) × (List Int) => match p with | (n, L) => sz L.length) (fun p : (Int) × (List Int) => match p with | (n, L) => resLL (mostM n L))
theorem tab_rMost_eq (n : Int) (L : List Int) : tab_rMost [intP n, ints L] = some (sz L.length, .p (resLL (mostM n L))) := tabOf_eq (enc := fun p : (Int) × (List Int) => match p with | (n, L) => [intP n, ints L]) (pre := fun p : (Int) × (List Int) => match p with | (n, L) => sz L.length) (out := fun p : (Int) × (List Int) => match p with | (n, L) => resLL (mostM n L)) (by rintro ⟨n, L⟩ ⟨n', L'⟩ h; simp at h; first | (simp [h]; done) | omega | (simp [h]; omega)) (n, L)
theorem tab_rMost_ok : TabOK Tryd.prog 27 tab_rMost := tabOf_ok (by rintro ⟨n, L⟩ h; exact rMost_spec n L h)
noncomputable abbrev ent_rMost : FuncId × List Nat × Tab := (27, [0, 1], tab_rMost)
attribute [go_sem] tab_rMost_eq
end Go.V
