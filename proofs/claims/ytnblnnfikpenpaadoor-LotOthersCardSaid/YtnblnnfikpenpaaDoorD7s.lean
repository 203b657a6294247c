/-
  Contracts of the laws of chapter 07: what is drawn; sets as lists; all whole lists. Conditions: none.
  Contracts of the program of chapter 07: the fewest loads, and what lists leave together. Conditions: none.
-/
import Derived.Test.YtnblnnfikpenpaaDoorD7b
import Derived.Test.YtnblnnfikpenpaaDoorC7a
import Derived.Test.YtnblnnfikpenpaaDoorP7m
import Derived.Test.YtnblnnfikpenpaaDoorP7j
set_option linter.unusedVariables false
set_option linter.unusedSimpArgs false
set_option linter.deprecated false
namespace Go.V
open Go.Proofs
set_option maxRecDepth 100000
set_option maxHeartbeats 4000000

/-! ### what is drawn -/
theorem u16s_one (A : List Nat) : (List.map AV.p (lof u16P A)).all AV.one = true := by
  rw [List.all_eq_true]
  intro x hx
  simp only [lof, List.map_map, List.mem_map, Function.comp] at hx
  obtain ⟨a, _, rfl⟩ := hx
  rfl
theorem u8s_one (A : List Nat) : (List.map AV.p (lof u8P A)).all AV.one = true := by
  rw [List.all_eq_true]
  intro x hx
  simp only [lof, List.map_map, List.mem_map, Function.comp] at hx
  obtain ⟨a, _, rfl⟩ := hx
  rfl
theorem u8s_norm (A : List Nat) : List.map (norm0 1) (lof u8P A) = lof u8P A := by
  simp only [lof, List.map_map]
  apply List.map_congr_left
  intro a _; rfl
theorem u16s_norm (A : List Nat) : List.map (norm0 1) (lof u16P A) = lof u16P A := by
  simp only [lof, List.map_map]
  apply List.map_congr_left
  intro a _; rfl
theorem emod_nat (a b : Nat) : (a : Int) % (b : Int) = ((a % b : Nat) : Int) := (Int.natCast_emod a b).symm
theorem made_spec (h : Nat × List Nat) (most : Nat) (g : FuncId) (caps : List PV) (m : Nat) (ok : HeapOK h) (h1 : 1 ≤ most) (h6 : most ≤ 6) (hm : m ≤ 1000) (hg : Ret Tryd.prog g (natP (1 + h.1 % most) :: caps) (natP m)) :
    Ret Tryd.prog 41 [heapP h, natP most, .func g caps] (.tuple [natP (1 + h.1 % most), ints (R7.madeL h.2 (min m 12))]) := by
  refine fn_of (T := []) (N := 38) (RO := [3, 33]) (CH := []) (KS := [0, 1, 2, 3, 6, 7, 8, 9, 11, 23, 24, 25, 26]) (NS := [7, 9, 34]) (fun args w => Tryd.call41 args w) Tryd.func41 rfl rfl (by simp) mixed (by kernel_rfl) trivial ?_
  obtain ⟨s, W⟩ := h
  obtain ⟨hs, hl, hlt'⟩ := ok
  simp only at hs hl hlt' hg ⊢
  have e1 := emod_nat s most
  have hr1 := Nat.mod_lt s (show most > 0 by omega)
  have e2 : (1 : Int) + ((s % most : Nat) : Int) = ((1 + s % most : Nat) : Int) := by omega
  simp only [go_sem, u16s_one, e1, e2]
  generalize 1 + s % most = n at *
  refine ⟨by omega, by rw [InK_i64]; omega, by omega, by rw [InK_i64]; omega, ?_⟩
  refine vret_pure hg (qs := natP n :: caps) (by rw [show (AV.p (PV.val (Value.int IntKind.i64 ↑n)) :: List.map AV.p caps) = (natP n :: caps).map AV.p from rfl]; exact pvs_map _) (LeL.refl _) (by decide) ?_
  simp only [go_sem]
  obtain ⟨k, hk⟩ : ∃ k, min m 12 = k := ⟨_, rfl⟩
  have em : (if (12 : Int) < (m : Int) then (12 : Int) else (m : Int)) = (k : Int) := by split <;> omega
  have hk12 : k ≤ 12 := by omega
  have hwk : (W.take k).length = k := by rw [List.length_take]; omega
  rw [em, hk, Int.toNat_natCast, lof_take, lof_length, hwk]
  refine ⟨by omega, ?_⟩
  refine vfor [8,9,23,24,25] [9] [.nilS 9 3 1] k (fun _ => True) (fun j => ⟨[(8,.p (natP n)),(9,.sl 9),(23,.p (.list .any 1 (lof u16P (W.take k)))),(24,.p (natP k)),(25,.p (natP j))], [(9,.vec 3 1 (lof intP ((R7.madeL W k).take j)))]⟩) (by first | rfl | (simp only [go_sem]; first | done | rfl)) trivial ?_
  intro j hj _
  have hml : (R7.madeL W k).length = k := R7.madeL_length (by omega)
  by_cases hlt : j < k
  · obtain ⟨x, hx⟩ := get_some (show j < (W.take k).length by omega)
    have hx2 := hlt' x (List.mem_of_mem_take (List.mem_of_getElem? hx))
    have hts : (R7.madeL W k).take (j + 1) = (R7.madeL W k).take j ++ [((x % 1001 : Nat) : Int)] := take_succ_of (by unfold R7.madeL; rw [List.getElem?_map, hx]; rfl)
    have hlen : ((R7.madeL W k).take j).length ≤ 4294967295 := by rw [List.length_take]; omega
    have e3 : (x : Int) % 1001 = ((x % 1001 : Nat) : Int) := by omega
    simp only [go_sem, hlt, lof_getD hx, lof_length, hwk, e3]
    rw [hts]
    exact ⟨by rw [InK_i64]; omega, hlen, by rw [InK_i64]; omega, by simp [lof]⟩
  · obtain rfl : j = k := by omega
    simp only [go_sem, Nat.lt_irrefl]
    rw [List.take_of_length_le (by omega)]
    exact ex_le_refl rfl

/-! ### a set as a list -/
abbrev memP (L : List Int) (m : Nat) : PV := .tuple [ints (ofN (R7.ones m)), intP (R7.wt L (R7.ones m))]
theorem members7_spec (L : List Int) (m : Nat) (hpre : L.length ≤ 12 ∧ (∀ x ∈ L, 0 ≤ x ∧ x ≤ 1000) ∧ m < 2 ^ L.length) : Ret Tryd.prog 44 [ints L, u64P m] (memP L m) := by
  refine fn_of (T := [ent_tz]) (N := 29) (RO := [19]) (CH := []) (KS := [0, 1, 4, 5, 6, 7, 8, 10]) (NS := [4, 6, 20]) (fun args w => Tryd.call44 args w) Tryd.func44 rfl rfl (by simp) mixed (by kernel_rfl) ⟨tab_tz_ok, trivial⟩ ?_
  simp only [go_sem]
  obtain ⟨h12, hxx, hm⟩ := hpre
  have hp := R7.pow12 h12
  have hwb : ∀ l : List Nat, 0 ≤ R7.wt L l ∧ R7.wt L l ≤ 1000 * l.length := fun l => by
    induction l with
    | nil => simp [R7.wt]
    | cons i r ih =>
      have h1 : 0 ≤ L.getD i 0 ∧ L.getD i 0 ≤ 1000 := by
        rw [List.getD_eq_getElem?_getD]
        cases h : L[i]? with
        | none => simp
        | some x => exact hxx x (List.mem_of_getElem? h)
      rw [R7.wt_cons]; simp only [List.length_cons]; omega
  refine vwhile [0,1,6,7] [6] [.nilS 6 3 1] (fun d : Nat × List Nat => d.1 ≤ m ∧ d.2 ++ R7.ones d.1 = R7.ones m) (fun d => d.1) (fun d => ⟨[(0,.p (ints L)),(1,.p (u64P d.1)),(6,.sl 6),(7,.p (intP (R7.wt L d.2)))], [(6,.vec 3 1 (lof intP (ofN d.2)))]⟩) (m, []) (by first | rfl | (simp only [go_sem]; first | done | rfl)) ⟨Nat.le_refl _, rfl⟩ ?_
  rintro ⟨g, o⟩ ⟨hg, hI⟩
  simp only at hg hI
  by_cases h0 : g = 0
  · subst h0
    rw [R7.ones_zero, List.append_nil] at hI
    subst hI
    simp only [go_sem]
    exact ex_le_refl rfl
  · have hs := R7.ones_step g (by omega) h0
    have hlen : o.length + 1 ≤ 12 := by
      have h1 := congrArg List.length hI
      have h2 := ones_len m
      rw [hs, List.length_append, List.length_cons] at h1; omega
    have e : ((g : Int) - 1) = ((g - 1 : Nat) : Int) := by omega
    have hlt := and_pred h0
    have htl : R7.tz g < L.length := R7.ones_lt (show g < 2 ^ L.length by omega) _ (by rw [hs]; simp)
    obtain ⟨y, hy⟩ := get_some htl
    have hyb := hxx y (List.mem_of_getElem? hy)
    have hwo := hwb o
    have hw1 : R7.wt L (o ++ [R7.tz g]) = R7.wt L o + y := by rw [R7.wt_append, R7.wt_cons, R7.wt_nil, List.getD_eq_getElem?_getD, hy]; simp
    simp only [go_sem, show ((g : Int) != 0) = true by simp [h0], e, u64_and (show g < 18446744073709551616 by omega) (show g - 1 < 18446744073709551616 by omega), lof_getD hy, ofN_length]
    exact ⟨⟨by omega, h0⟩, by omega, htl, by rw [InK_i64]; omega, by rw [InK_u64]; omega, (g &&& (g - 1), o ++ [R7.tz g]), hlt, ⟨by simp only; omega, by simp only [List.append_assoc, List.singleton_append]; rw [← hs]; exact hI⟩, by rw [hw1]; simp [lof, ofN]⟩
noncomputable def tab_members7 : Tab := tabOf (fun p : (List Int) × (Nat) => match p with | (L, m) => [ints L, u64P m]) (fun p : (List Int) × (Nat) => match p with | (L, m) => L.length ≤ 12 ∧ (∀ x ∈ L, 0 ≤ x ∧ x ≤ 1000) ∧ m < 2 ^ L.length) (fun p : (List Int) × (Nat) => match p with | (L, m) => memP L m)
theorem tab_members7_eq (L : List Int) (m : Nat) : tab_members7 [ints L, u64P m] = some (L.length ≤ 12 ∧ (∀ x ∈ L, 0 ≤ x ∧ x ≤ 1000) ∧ m < 2 ^ L.length, .p (memP L m)) := tabOf_eq (enc := fun p : (List Int) × (Nat) => match p with | (L, m) => [ints L, u64P m]) (pre := fun p : (List Int) × (Nat) => match p with | (L, m) => L.length ≤ 12 ∧ (∀ x ∈ L, 0 ≤ x ∧ x ≤ 1000) ∧ m < 2 ^ L.length) (out := fun p : (List Int) × (Nat) => match p with | (L, m) => memP L m) (by rintro ⟨L, m⟩ ⟨L', m'⟩ h; simp at h; first | (simp [h]; done) | omega | (simp [h]; omega)) (L, m)
theorem tab_members7_ok : TabOK Tryd.prog 44 tab_members7 := tabOf_ok (by rintro ⟨L, m⟩ h; exact members7_spec L m h)
noncomputable abbrev ent_members7 : FuncId × List Nat × Tab := (44, [1, 0], tab_members7)
attribute [go_sem] tab_members7_eq

theorem isNaN_spec (x : Int) (hpre : True) : Ret Tryd.prog 108 [intP x] (boolP false) := by
  refine fn_of (T := []) (N := 6) (RO := []) (CH := []) (KS := [0, 2]) (NS := []) (fun args w => Tryd.call108 args w) Tryd.func108 rfl rfl (by simp) mixed (by kernel_rfl) trivial ?_
  simp only [go_sem]
  exact ex_le_refl (by simp)
noncomputable def tab_isNaN : Tab := tabOf (fun p : (Int) => match p with | x => [intP x]) (fun p : (Int) => match p with | x => True) (fun p : (Int) => match p with | x => boolP false)
theorem tab_isNaN_eq (x : Int) : tab_isNaN [intP x] = some (True, .p (boolP false)) := tabOf_eq (enc := fun p : (Int) => match p with | x => [intP x]) (pre := fun p : (Int) => match p with | x => True) (out := fun p : (Int) => match p with | x => boolP false) (by rintro x x' h; simp at h; first | (simp [h]; done) | omega | (simp [h]; omega)) (x)
theorem tab_isNaN_ok : TabOK Tryd.prog 108 tab_isNaN := tabOf_ok (by rintro x h; exact isNaN_spec x h)
noncomputable abbrev ent_isNaN : FuncId × List Nat × Tab := (108, [], tab_isNaN)
attribute [go_sem] tab_isNaN_eq

theorem cmpII_spec (x : Int) (y : Int) (hpre : True) : Ret Tryd.prog 81 [intP x, intP y] (intP (cmpI x y)) := by
  refine fn_of (T := [ent_isNaN]) (N := 20) (RO := []) (CH := []) (KS := [0, 1, 4, 5, 6, 11, 12, 13, 16, 19]) (NS := []) (fun args w => Tryd.call81 args w) Tryd.func81 rfl rfl (by simp) mixed (by kernel_rfl) ⟨tab_isNaN_ok, trivial⟩ ?_
  simp only [go_sem]
  by_cases h1 : x < y
  · simp only [go_sem, h1]
    exact ex_le_refl (by simp [cmpI, h1])
  · by_cases h2 : y < x
    · simp only [go_sem, h1, h2]
      exact ex_le_refl (by simp [cmpI, h1, h2])
    · simp only [go_sem, h1, h2]
      exact ex_le_refl (by simp [cmpI, h1, h2])
noncomputable def tab_cmpII : Tab := tabOf (fun p : (Int) × (Int) => match p with | (x, y) => [intP x, intP y]) (fun p : (Int) × (Int) => match p with | (x, y) => True) (fun p : (Int) × (Int) => match p with | (x, y) => intP (cmpI x y))
theorem tab_cmpII_eq (x : Int) (y : Int) : tab_cmpII [intP x, intP y] = some (True, .p (intP (cmpI x y))) := tabOf_eq (enc := fun p : (Int) × (Int) => match p with | (x, y) => [intP x, intP y]) (pre := fun p : (Int) × (Int) => match p with | (x, y) => True) (out := fun p : (Int) × (Int) => match p with | (x, y) => intP (cmpI x y)) (by rintro ⟨x, y⟩ ⟨x', y'⟩ h; simp at h; first | (simp [h]; done) | omega | (simp [h]; omega)) (x, y)
theorem tab_cmpII_ok : TabOK Tryd.prog 81 tab_cmpII := tabOf_ok (by rintro ⟨x, y⟩ h; exact cmpII_spec x y h)
noncomputable abbrev ent_cmpII : FuncId × List Nat × Tab := (81, [], tab_cmpII)
attribute [go_sem] tab_cmpII_eq
theorem cmpLL_spec (a : List Int) (b : List Int) (hpre : sz a.length ∧ sz b.length) : Ret Tryd.prog 57 [ints a, ints b] (intP (cmpL a b)) := by
  refine fn_of (T := [ent_cmpII]) (N := 36) (RO := []) (CH := []) (KS := [0, 1, 4, 5, 6, 7, 8, 9, 10, 11, 12, 19, 28, 35]) (NS := []) (fun args w => Tryd.call57 args w) Tryd.func57 rfl rfl (by simp) mixed (by kernel_rfl) ⟨tab_cmpII_ok, trivial⟩ ?_
  simp only [go_sem]
  refine vfor [0,1,9,10,11] [] [] a.length (fun k => k ≤ b.length ∧ cmpL a b = cmpL (a.drop k) (b.drop k)) (fun k => ⟨[(0,.p (ints a)),(1,.p (ints b)),(9,.p (ints a)),(10,.p (natP a.length)),(11,.p (natP k))], []⟩) rfl ⟨by simp, rfl⟩ ?_
  rintro k hk ⟨hkb, hI⟩
  by_cases hlt : k < a.length
  · obtain ⟨x, hx⟩ := get_some hlt
    have hda : a.drop k = x :: a.drop (k + 1) := by rw [List.drop_eq_getElem_cons hlt]; simp [List.getElem?_eq_getElem hlt] at hx; rw [hx]
    by_cases hb : b.length ≤ k
    · simp only [go_sem, hlt, lof_getD hx, hb]
      have hdb : b.drop k = [] := List.drop_of_length_le (by omega)
      rw [hda, hdb] at hI
      exact ex_le_refl (by rw [hI]; rfl)
    · obtain ⟨y, hy⟩ := get_some (show k < b.length by omega)
      have hdb : b.drop k = y :: b.drop (k + 1) := by rw [List.drop_eq_getElem_cons (by omega)]; simp [List.getElem?_eq_getElem (show k < b.length by omega)] at hy; rw [hy]
      rw [hda, hdb, cmpL_cons] at hI
      have hkb' : k < b.length := by omega
      by_cases hc : cmpI x y = 0
      · rw [if_neg (by simp [hc])] at hI
        simp only [go_sem, hlt, lof_getD hx, hb, lof_getD hy, hc, hkb']
        (repeat' (first | assumption | (rw [InK_i64]; omega) | (rw [InK_u8]; omega) | (rw [InK_u64]; omega) | omega | rfl | apply And.intro))
      · rw [if_pos hc] at hI
        simp only [go_sem, hlt, lof_getD hx, hb, lof_getD hy, hkb', show (cmpI x y != 0) = true by simp [hc]]
        exact ex_le_refl (by rw [hI])
  · have hda : a.drop k = [] := List.drop_of_length_le (by omega)
    obtain rfl : k = a.length := by omega
    rw [hda, cmpL_nil] at hI
    by_cases hb : (a.length : Int) < b.length
    · simp only [go_sem, hlt, hb]
      exact ex_le_refl (by rw [hI, if_neg (by intro e; have := congrArg List.length e; simp at this; omega)])
    · simp only [go_sem, hlt, hb]
      exact ex_le_refl (by rw [hI, if_pos (List.drop_of_length_le (by omega))])
noncomputable def tab_cmpLL : Tab := tabOf (fun p : (List Int) × (List Int) => match p with | (a, b) => [ints a, ints b]) (fun p : (List Int) × (List Int) => match p with | (a, b) => sz a.length ∧ sz b.length) (fun p : (List Int) × (List Int) => match p with | (a, b) => intP (cmpL a b))
theorem tab_cmpLL_eq (a : List Int) (b : List Int) : tab_cmpLL [ints a, ints b] = some (sz a.length ∧ sz b.length, .p (intP (cmpL a b))) := tabOf_eq (enc := fun p : (List Int) × (List Int) => match p with | (a, b) => [ints a, ints b]) (pre := fun p : (List Int) × (List Int) => match p with | (a, b) => sz a.length ∧ sz b.length) (out := fun p : (List Int) × (List Int) => match p with | (a, b) => intP (cmpL a b)) (by rintro ⟨a, b⟩ ⟨a', b'⟩ h; simp at h; first | (simp [h]; done) | omega | (simp [h]; omega)) (a, b)
theorem tab_cmpLL_ok : TabOK Tryd.prog 57 tab_cmpLL := tabOf_ok (by rintro ⟨a, b⟩ h; exact cmpLL_spec a b h)
noncomputable abbrev ent_cmpLL : FuncId × List Nat × Tab := (57, [1, 1], tab_cmpLL)
attribute [go_sem] tab_cmpLL_eq

theorem cmpL_orders {l : List (List Int)} : Orders cmpL l where
  irrefl x _ := by rw [cmpL_refl]; omega
  trans x _ y _ z _ h1 h2 := cmpL_lt_trans h1 h2
  ntrans x _ y _ z _ h1 h2 := cmpL_ntrans h1 h2

theorem wholesL_spec (n : Nat) (L : List Int) (k : Nat) (hpre : Okl n L) : Ret Tryd.prog 54 [natP n, ints L, natP k] (lists ((R7.whole n L k).map ofN)) := by
  refine fn_of (T := [ent_members7, ent_oc]) (N := 39) (RO := [33]) (CH := []) (KS := [0, 1, 2, 6, 7, 8, 9, 10, 13, 14, 15, 20, 30]) (NS := [6, 7, 34]) (fun args w => Tryd.call54 args w) Tryd.func54 rfl rfl (by simp) mixed (by kernel_rfl) ⟨tab_members7_ok, tab_oc_ok, trivial⟩ ?_
  simp only [go_sem]
  have h12 := hpre.len
  have hp := R7.pow12 h12
  have hn1 := hpre.n1
  have e2 : (1 : Int) * 2 ^ L.length = ((2 ^ L.length : Nat) : Int) := by push_cast; simp
  have hp0 : (0 : Int) ≤ ((2 ^ L.length : Nat) : Int) := Int.natCast_nonneg _
  rw [e2]
  refine ⟨⟨by omega, by rw [InK_u64]; omega⟩, ?_⟩
  refine vfor [0,1,2,7,13,14] [7] [.nilS 7 22 1] (2 ^ L.length) (fun _ => True) (fun c => ⟨[(0,.p (natP n)),(1,.p (ints L)),(2,.p (natP k)),(7,.sl 7),(13,.p (u64P (2 ^ L.length))),(14,.p (u64P c))], [(7,.vec 22 1 (lof ints ((R7.wholeC n L k c).map ofN)))]⟩) (by first | rfl | (simp only [go_sem]; first | done | rfl)) trivial ?_
  intro c hc _
  have hwl := R7.wholeC_length n L k c
  by_cases hlt : c < 2 ^ L.length
  · have hsu := R7.wholeC_succ n L k c
    have hxx : ∀ x ∈ L, 0 ≤ x ∧ x ≤ 1000 := fun x hx => ⟨hpre.lo x hx, hpre.hi x hx⟩
    cases hb : ((R7.ones c).length == k) with
    | false =>
      have hb2 : ((oc c : Int) != (k : Int)) = true := by unfold oc; rw [bne_iff_ne]; rw [beq_eq_false_iff_ne] at hb; omega
      rw [hb] at hsu
      simp only [go_sem, hlt, hb2]
      rw [hsu]
      exact ⟨by omega, by rw [InK_u64]; omega, by simp⟩
    | true =>
      have hb2 : ((oc c : Int) != (k : Int)) = false := by unfold oc; rw [bne_eq_false_iff_eq]; rw [beq_iff_eq] at hb; omega
      cases hv : (R7.wt L (R7.ones c) % n == 0) with
      | false =>
        rw [hb, hv] at hsu
        simp only [go_sem, hlt, hb2, hv]
        rw [hsu]
        have hwb : 0 ≤ R7.wt L (R7.ones c) := by rw [← wtI_ofN]; exact (wtI_bound hpre _).1
        exact ⟨by omega, ⟨h12, hxx⟩, ⟨hwb, by omega⟩, by rw [InK_u64]; omega, by simp⟩
      | true =>
        rw [hb, hv] at hsu
        simp only [go_sem, hlt, hb2, hv]
        rw [hsu]
        have hwb : 0 ≤ R7.wt L (R7.ones c) := by rw [← wtI_ofN]; exact (wtI_bound hpre _).1
        exact ⟨by omega, ⟨h12, hxx⟩, ⟨hwb, by omega⟩, by rw [List.length_map]; omega, by rw [InK_u64]; omega, by simp [lof]⟩
  · obtain rfl : c = 2 ^ L.length := by omega
    simp only [go_sem, Nat.lt_irrefl]
    have hlen : ∀ x ∈ (R7.wholeC n L k (2 ^ L.length)).map ofN, sz x.length := fun x hx => by
      obtain ⟨y, hy, rfl⟩ := List.mem_map.1 hx
      have := (R7.whole_mem12 h12 ((R7.wholeC_mem h12).1 hy)).2.1
      obtain ⟨m, _, rfl⟩ := List.mem_map.1 hy
      have := ones_len m
      unfold sz; rw [ofN_length]; omega
    refine vcall_sort1 sortLaw80 (f := ints) (c := cmpL) (by simp only [go_sem, seval]; first | done | rfl) (by decide) (fun _ _ => rfl) (by rw [List.length_map]; omega) cmpL_orders (fun x hx y hy => cmpLL_spec x y ⟨hlen x hx, hlen y hy⟩) (fun l' hp' hs => ?_)
    rw [R7.sorted_whole h12 hp' hs]
    simp only [go_sem]
    exact ex_le_refl rfl
noncomputable def tab_wholesL : Tab := tabOf (fun p : (Nat) × (List Int) × (Nat) => match p with | (n, L, k) => [natP n, ints L, natP k]) (fun p : (Nat) × (List Int) × (Nat) => match p with | (n, L, k) => Okl n L) (fun p : (Nat) × (List Int) × (Nat) => match p with | (n, L, k) => lists ((R7.whole n L k).map ofN))
theorem tab_wholesL_eq (n : Nat) (L : List Int) (k : Nat) : tab_wholesL [natP n, ints L, natP k] = some (Okl n L, .p (lists ((R7.whole n L k).map ofN))) := tabOf_eq (enc := fun p : (Nat) × (List Int) × (Nat) => match p with | (n, L, k) => [natP n, ints L, natP k]) (pre := fun p : (Nat) × (List Int) × (Nat) => match p with | (n, L, k) => Okl n L) (out := fun p : (Nat) × (List Int) × (Nat) => match p with | (n, L, k) => lists ((R7.whole n L k).map ofN)) (by rintro ⟨n, L, k⟩ ⟨n', L', k'⟩ h; simp at h; first | (simp [h]; done) | omega | (simp [h]; omega)) (n, L, k)
theorem tab_wholesL_ok : TabOK Tryd.prog 54 tab_wholesL := tabOf_ok (by rintro ⟨n, L, k⟩ h; exact wholesL_spec n L k h)
noncomputable abbrev ent_wholesL : FuncId × List Nat × Tab := (54, [0, 1, 0], tab_wholesL)
attribute [go_sem] tab_wholesL_eq
end Go.V

namespace Go.V
open Go.Proofs
set_option maxRecDepth 100000
set_option maxHeartbeats 4000000

def someM (n : Int) (L : List Int) : List Int × Int := if checkS n L = 0 then (match R7.someL n.toNat L with
  | none => ([], 12)
  | some l => (ofN l, 0)) else ([], checkS n L)
theorem bestU_lt {n : Nat} {L : List Int} {c : Nat} (h : c ≤ 4096) : R7.bestU n L c < 4096 := by
  by_cases e : R7.bestU n L c = 0
  · rw [e]; omega
  · have := ((R7.bestU_inv c h).2 e).1; omega

theorem some7_spec (n : Int) (L : List Int) (hpre : sz L.length) : Ret Tryd.prog 33 [intP n, ints L] (resP (someM n L)) := by
  refine fn_of (T := [ent_check7, ent_left7, ent_oc, ent_before73, ent_list60]) (N := 62) (RO := []) (CH := []) (KS := [0, 1, 4, 5, 6, 7, 8, 9, 10, 11, 16, 20, 21, 22, 23, 32, 55, 59]) (NS := []) (fun args w => Tryd.call33 args w) Tryd.func33 rfl rfl (by simp) mixed (by kernel_rfl) ⟨tab_check7_ok, tab_left7_ok, tab_oc_ok, tab_before73_ok, tab_list60_ok, trivial⟩ ?_
  simp only [go_sem]
  by_cases hc : checkS n L = 0
  · obtain ⟨m, rfl⟩ := nat_of hc
    have ok := Okl.of hc
    have h12 := ok.len
    have hp := R7.pow12 h12
    have hm : someM (m : Int) L = _ := if_pos hc
    rw [Int.toNat_natCast, R7.best_some h12] at hm
    rw [hm]
    simp only [go_sem, hc, leftL_length]
    (repeat with_reducible refine And.intro (by (repeat' with_reducible refine And.intro ?_ ?_) <;> first | with_reducible assumption | omega | (simp only [InK_i64, InK_u64, InK_u8]; omega) | (unfold sz; omega) | exact True.intro) ?_)
    refine vfor [7,20,21,22] [] [] (2 ^ L.length) (fun _ => True) (fun c => ⟨[(7,.p (natP (R7.bestU m L c))),(20,.p (ints (leftL m L))),(21,.p (natP (2 ^ L.length))),(22,.p (natP c))], []⟩) (by first | rfl | (simp only [go_sem]; first | done | rfl)) trivial ?_
    intro c hcl _
    have hbl := bestU_lt (n := m) (L := L) (c := c) (by omega)
    by_cases hlt : c < 2 ^ L.length
    · have hg := leftL_get (n := m) hlt
      have hsu := R7.bestU_succ m L c
      cases h1 : (R7.leftU m L c == 0) with
      | false =>
        have h1b : (R7.leftU m L c != 0) = true := by rw [bne, h1]; rfl
        simp only [go_sem, leftL_length, hlt, lof_getD hg, h1b]
        have e : R7.bestU m L (c + 1) = R7.bestU m L c := by rw [hsu, h1]; simp
        rw [e]
        (repeat' (first | assumption | (rw [InK_i64]; omega) | (rw [InK_u8]; omega) | (rw [InK_u64]; omega) | omega | rfl | apply And.intro))
      | true =>
        have h1b : (R7.leftU m L c != 0) = false := by rw [bne, h1]; rfl
        by_cases h2 : c = 0
        · subst h2
          simp only [go_sem, leftL_length, hlt, show (0 : Int) < ((2 ^ L.length : Nat) : Int) by omega, lof_getD hg, h1b]
          have e : R7.bestU m L (0 + 1) = R7.bestU m L 0 := by rw [hsu]; simp
          rw [e]
          (repeat' (first | assumption | (rw [InK_i64]; omega) | (rw [InK_u8]; omega) | (rw [InK_u64]; omega) | omega | rfl | apply And.intro))
        · have h2b : ((c : Int) == 0) = false := by rw [beq_eq_false_iff_ne]; omega
          by_cases hb0 : R7.bestU m L c = 0
          · have hb1 : ((R7.bestU m L c : Int) == 0) = true := by rw [hb0]; rfl
            simp only [go_sem, leftL_length, hlt, lof_getD hg, h1b, h2b, hb1]
            have e : R7.bestU m L (c + 1) = c := by rw [hsu, h1, hb0]; simp [h2, R7.better]
            rw [e]
            (repeat' (first | assumption | (rw [InK_i64]; omega) | (rw [InK_u8]; omega) | (rw [InK_u64]; omega) | omega | rfl | apply And.intro))
          · have hb1 : ((R7.bestU m L c : Int) == 0) = false := by rw [beq_eq_false_iff_ne]; omega
            by_cases h3 : (oc c : Int) < oc (R7.bestU m L c)
            · simp only [go_sem, leftL_length, hlt, lof_getD hg, h1b, h2b, hb1, h3]
              have h3' : (R7.ones c).length < (R7.ones (R7.bestU m L c)).length := by unfold oc at h3; omega
              have e : R7.bestU m L (c + 1) = c := by rw [hsu, h1]; simp [h2, R7.better, h3']
              rw [e]
              (repeat' (first | assumption | (rw [InK_i64]; omega) | (rw [InK_u8]; omega) | (rw [InK_u64]; omega) | omega | rfl | apply And.intro))
            · cases h4 : ((oc c : Int) == oc (R7.bestU m L c)) with
              | false =>
                simp only [go_sem, leftL_length, hlt, lof_getD hg, h1b, h2b, hb1, h3, h4]
                have h3' : ¬ (R7.ones c).length < (R7.ones (R7.bestU m L c)).length := by unfold oc at h3; omega
                have h4' : ¬ (R7.ones c).length = (R7.ones (R7.bestU m L c)).length := by unfold oc at h4; rw [beq_eq_false_iff_ne] at h4; omega
                have e : R7.bestU m L (c + 1) = R7.bestU m L c := by rw [hsu, h1]; simp [h2, hb0, R7.better, h3', h4']
                rw [e]
                (repeat' (first | assumption | (rw [InK_i64]; omega) | (rw [InK_u8]; omega) | (rw [InK_u64]; omega) | omega | rfl | apply And.intro))
              | true =>
                cases h5 : R7.bitB c (R7.bestU m L c) with
                | false =>
                  simp only [go_sem, leftL_length, hlt, lof_getD hg, h1b, h2b, hb1, h3, h4, h5]
                  have h3' : ¬ (R7.ones c).length < (R7.ones (R7.bestU m L c)).length := by unfold oc at h3; omega
                  have e : R7.bestU m L (c + 1) = R7.bestU m L c := by rw [hsu, h1]; simp [h2, hb0, R7.better, h3', h5]
                  rw [e]
                  (repeat' (first | assumption | (rw [InK_i64]; omega) | (rw [InK_u8]; omega) | (rw [InK_u64]; omega) | omega | rfl | apply And.intro))
                | true =>
                  simp only [go_sem, leftL_length, hlt, lof_getD hg, h1b, h2b, hb1, h3, h4, h5]
                  have h4' : (R7.ones c).length = (R7.ones (R7.bestU m L c)).length := by unfold oc at h4; rw [beq_iff_eq] at h4; omega
                  have e : R7.bestU m L (c + 1) = c := by rw [hsu, h1]; simp [h2, R7.better, h4', h5]
                  rw [e]
                  (repeat' (first | assumption | (rw [InK_i64]; omega) | (rw [InK_u8]; omega) | (rw [InK_u64]; omega) | omega | rfl | apply And.intro))
    · obtain rfl : c = 2 ^ L.length := by omega
      by_cases hb : R7.bestU m L (2 ^ L.length) = 0
      · rw [if_pos hb, hb]
        simp only [go_sem, Nat.lt_irrefl]
        exact ex_le (by (repeat' (first | exact Le.refl _ | exact Le.nilS _ _ | exact Le.tight | refine Le.tuple ?_ | refine Le.list ?_ | refine Le.agg ?_ | refine LeL.cons ?_ ?_ | exact LeL.nil)))
      · have hb1 : ((R7.bestU m L (2 ^ L.length) : Int) == 0) = false := by rw [beq_eq_false_iff_ne]; omega
        rw [if_neg hb]
        simp only [go_sem, Nat.lt_irrefl, hb1]
        exact ⟨hbl, ex_le_refl rfl⟩
  · have hm : someM n L = ([], checkS n L) := if_neg hc
    have hcb : (checkS n L != 0) = true := by simp [hc]
    rw [hm]
    simp only [go_sem, hcb]
    (repeat with_reducible refine And.intro (by (repeat' with_reducible refine And.intro ?_ ?_) <;> first | with_reducible assumption | omega | (simp only [InK_i64, InK_u64, InK_u8]; omega) | (unfold sz; omega) | exact True.intro) ?_)
    exact ex_le (by (repeat' (first | exact Le.refl _ | exact Le.nilS _ _ | exact Le.tight | refine Le.tuple ?_ | refine Le.list ?_ | refine Le.agg ?_ | refine LeL.cons ?_ ?_ | exact LeL.nil)))
noncomputable def tab_some7 : Tab := tabOf (fun p : (Int) × (List Int) => match p with | (n, L) => [intP n, ints L]) (fun p : (Int) × (List Int) => match p with | (n, L) => sz L.length) (fun p : (Int) × (List Int) => match p with | (n, L) => resP (someM n L))
theorem tab_some7_eq (n : Int) (L : List Int) : tab_some7 [intP n, ints L] = some (sz L.length, .p (resP (someM n L))) := tabOf_eq (enc := fun p : (Int) × (List Int) => match p with | (n, L) => [intP n, ints L]) (pre := fun p : (Int) × (List Int) => match p with | (n, L) => sz L.length) (out := fun p : (Int) × (List Int) => match p with | (n, L) => resP (someM n L)) (by rintro ⟨n, L⟩ ⟨n', L'⟩ h; simp at h; first | (simp [h]; done) | omega | (simp [h]; omega)) (n, L)
theorem tab_some7_ok : TabOK Tryd.prog 33 tab_some7 := tabOf_ok (by rintro ⟨n, L⟩ h; exact some7_spec n L h)
noncomputable abbrev ent_some7 : FuncId × List Nat × Tab := (33, [0, 1], tab_some7)
attribute [go_sem] tab_some7_eq

/-! ### what lists leave together -/
theorem index7_spec (l : List Int) (v : Int) (hpre : sz l.length) : Ret Tryd.prog 74 [ints l, intP v] (intP (idxBy (v == ·) l)) := by
  refine fn_of (T := []) (N := 19) (RO := []) (CH := []) (KS := [0, 1, 4, 5, 7, 8, 9, 16]) (NS := []) (fun args w => Tryd.call74 args w) Tryd.func74 rfl rfl (by simp) mixed (by kernel_rfl) trivial ?_
  simp only [go_sem]
  refine vfor [0,1,7,8] [] [] l.length (fun k => ∀ j x, j < k → l[j]? = some x → (v == x) = false) (fun k => ⟨[(0,.p (ints l)),(1,.p (intP v)),(7,.p (natP l.length)),(8,.p (natP k))], []⟩) (by first | rfl | (simp only [go_sem]; first | done | rfl)) (by simp) ?_
  intro k hk hI
  by_cases hlt : k < l.length
  · obtain ⟨x, hx⟩ := get_some hlt
    cases hv : (v == x) with
    | true =>
      simp only [go_sem, hlt, lof_getD hx, hv]
      exact ex_le_refl (by rw [idxBy_hit hI hx hv])
    | false =>
      simp only [go_sem, hlt, lof_getD hx, hv]
      refine ⟨by rw [InK_i64]; unfold sz at hpre; omega, fun j y hj hy => ?_, rfl⟩
      by_cases e : j = k
      · subst e; rw [hx] at hy; cases hy; exact hv
      · exact hI j y (by omega) hy
  · simp only [go_sem, hlt]
    exact ex_le_refl (by rw [idxBy_none (fun j x hx => hI j x (by have := (List.getElem?_eq_some_iff.1 hx).1; omega) hx)])
noncomputable def tab_index7 : Tab := tabOf (fun p : (List Int) × (Int) => match p with | (l, v) => [ints l, intP v]) (fun p : (List Int) × (Int) => match p with | (l, v) => sz l.length) (fun p : (List Int) × (Int) => match p with | (l, v) => intP (idxBy (v == ·) l))
theorem tab_index7_eq (l : List Int) (v : Int) : tab_index7 [ints l, intP v] = some (sz l.length, .p (intP (idxBy (v == ·) l))) := tabOf_eq (enc := fun p : (List Int) × (Int) => match p with | (l, v) => [ints l, intP v]) (pre := fun p : (List Int) × (Int) => match p with | (l, v) => sz l.length) (out := fun p : (List Int) × (Int) => match p with | (l, v) => intP (idxBy (v == ·) l)) (by rintro ⟨l, v⟩ ⟨l', v'⟩ h; simp at h; first | (simp [h]; done) | omega | (simp [h]; omega)) (l, v)
theorem tab_index7_ok : TabOK Tryd.prog 74 tab_index7 := tabOf_ok (by rintro ⟨l, v⟩ h; exact index7_spec l v h)
noncomputable abbrev ent_index7 : FuncId × List Nat × Tab := (74, [1, 0], tab_index7)
attribute [go_sem] tab_index7_eq

/-- numbers below n, as a list of marks -/
def bl (n : Nat) (f : Nat → Bool) : List Bool := (List.range n).map f
theorem bl_length (n : Nat) (f : Nat → Bool) : (bl n f).length = n := by simp [bl]
theorem bl_get {n : Nat} (f : Nat → Bool) {i : Nat} (h : i < n) : (bl n f)[i]? = some (f i) := by simp [bl, h]
theorem bl_set {n : Nat} (f : Nat → Bool) (i : Nat) (v : Bool) : (bl n f).set i v = bl n fun r => if r = i then v else f r := by
  apply List.ext_getElem (by simp [bl])
  intro j h1 h2
  simp only [bl, List.getElem_set, List.getElem_map, List.getElem_range]
  by_cases e : i = j
  · rw [if_pos e, if_pos e.symm]
  · rw [if_neg e, if_neg (fun e2 => e e2.symm)]
abbrev blP (n : Nat) (f : Nat → Bool) : List PV := lof boolP (bl n f)
theorem blP_set {n : Nat} (f : Nat → Bool) (i : Nat) (v : Bool) : (blP n f).set i (boolP v) = blP n fun r => if r = i then v else f r := by
  unfold blP; rw [← bl_set]; simp [lof, List.map_set]
theorem blP_none (n : Nat) : blP n (fun _ => false) = List.replicate n (PV.val (.bool false)) := by
  unfold blP bl lof
  apply List.ext_getElem (by simp)
  intro i h1 h2
  simp
/-- one list more: from the marks of what was left, so far as m, and of the list, so far as j -/
def addJ (n : Nat) (is : Bool) (m : Nat) (l : List Int) (r : Nat) : Bool := is && l.any fun w => ((m : Int) + w) % n == r
def addU (n : Nat) (now : Nat → Bool) (l : List Int) (c : Nat) (r : Nat) : Bool := (List.range c).any fun m => addJ n (now m) m l r
def nowM (n : Nat) (ls : List (List Int)) : Nat → Bool := ls.foldl (fun now l r => addU n now l n r) (fun r => r == 0)
def toldL (n : Nat) (ls : List (List Int)) : List Nat := (List.range n).filter (nowM n ls)
theorem addU_succ (n : Nat) (now : Nat → Bool) (l : List Int) (c r : Nat) : addU n now l (c + 1) r = (addU n now l c r || addJ n (now c) c l r) := by
  unfold addU; rw [List.range_succ, List.any_append]; simp
theorem addJ_nil (n : Nat) (is : Bool) (m r : Nat) : addJ n is m [] r = false := by unfold addJ; simp
theorem addJ_snoc (n : Nat) (is : Bool) (m : Nat) (l : List Int) (w : Int) (r : Nat) : addJ n is m (l ++ [w]) r = (addJ n is m l r || (is && ((m : Int) + w) % n == r)) := by
  unfold addJ; rw [List.any_append]; cases is <;> simp

theorem nowM_snoc (n : Nat) (ls : List (List Int)) (l : List Int) : nowM n (ls ++ [l]) = addU n (nowM n ls) l n := by
  unfold nowM; rw [List.foldl_append]; rfl
theorem ofN_snoc (l : List Nat) (x : Nat) : ofN (l ++ [x]) = ofN l ++ [(x : Int)] := by simp [ofN]
theorem blP_congr {n : Nat} {f g : Nat → Bool} (h : ∀ r, r < n → f r = g r) : blP n f = blP n g := by
  unfold blP bl
  rw [List.map_congr_left (fun r hr => h r (List.mem_range.1 hr))]
theorem blP_length (n : Nat) (f : Nat → Bool) : (blP n f).length = n := by simp [blP, bl, lof]

theorem told7_spec (n : Nat) (ls : List (List Int)) (hpre : 1 ≤ n ∧ n ≤ 6 ∧ ls.length ≤ 2 ∧ ∀ l ∈ ls, l.length ≤ 12 ∧ ∀ x ∈ l, 0 ≤ x ∧ x ≤ 1000) : Ret Tryd.prog 68 [natP n, lists ls] (ints (ofN (toldL n ls))) := by
  refine fn_of (T := []) (N := 77) (RO := [73]) (CH := [3500013, 3600013]) (KS := [0, 1, 4, 5, 7, 8, 9, 10, 12, 13, 14, 15, 20, 21, 22, 23, 28, 29, 30, 31, 35, 36, 37, 38, 63, 64, 65, 66, 70]) (NS := [4, 5, 8, 13, 17, 27, 74]) (fun args w => Tryd.call68 args w) Tryd.func68 rfl rfl (by simp) mixed (by kernel_rfl) trivial ?_
  simp only [go_sem]
  obtain ⟨h1, h6, h2, hls⟩ := hpre
  have e0 : (List.replicate n (PV.val (Value.bool false))).set 0 (boolP true) = blP n (nowM n []) := by
    rw [← blP_none, blP_set]
    exact blP_congr fun r hr => by unfold nowM; rw [List.foldl_nil]; by_cases e : r = 0 <;> simp [e]
  rw [List.length_replicate, e0]
  refine ⟨by omega, by omega, by omega, ?_⟩
  refine vfor [0,5,20,21,22] [5,8] [.ren 8 5] ls.length (fun _ => True) (fun k => ⟨[(0,.p (natP n)),(5,.sl 5),(20,.p (lists ls)),(21,.p (natP ls.length)),(22,.p (natP k))], [(5,.vec 4 1 (blP n (nowM n (ls.take k))))]⟩) (by first | rfl | (simp only [go_sem, List.take_zero]; first | done | rfl)) trivial ?_
  intro k hk _
  by_cases hlt : k < ls.length
  · obtain ⟨l, hl⟩ := get_some hlt
    obtain ⟨l12, hlx⟩ := hls l (List.mem_of_getElem? hl)
    have hts := take_succ_of hl
    obtain ⟨now, hnow⟩ : ∃ f, nowM n (ls.take k) = f := ⟨_, rfl⟩
    have hsn := nowM_snoc n (ls.take k) l
    rw [← hts, hnow] at hsn
    rw [hnow]
    have el : (lof boolP (bl n now)).length = n := blP_length n now
    simp only [go_sem, hlt, lof_getD hl, el, ← blP_none]
    refine ⟨by omega, ?_⟩
    refine vfor [0,7,8,20,21,22,28,29,30] [8] [.seal 5] n (fun _ => True) (fun c => ⟨[(0,.p (natP n)),(7,.p (ints l)),(8,.sl 8),(20,.p (lists ls)),(21,.p (natP ls.length)),(22,.p (natP k)),(28,.p (.list .any 1 (blP n now))),(29,.p (natP n)),(30,.p (natP c))], [(8,.vec 4 1 (blP n (addU n now l c)))]⟩) (by first | rfl | (simp only [go_sem]; first | done | rfl)) trivial ?_
    intro c hc _
    by_cases hcl : c < n
    · have hg := bl_get now hcl
      simp only [go_sem, bl_length, hcl, lof_getD hg]
      (repeat with_reducible refine And.intro (by (repeat' with_reducible refine And.intro ?_ ?_) <;> first | with_reducible assumption | omega | (simp only [InK_i64, InK_u64, InK_u8]; omega) | (unfold sz; omega) | exact True.intro) ?_)
      refine vfor [0,7,8,9,10,20,21,22,28,29,30,35,36,37] [8] [] l.length (fun _ => True) (fun j => ⟨[(0,.p (natP n)),(7,.p (ints l)),(8,.sl 8),(9,.p (natP c)),(10,.p (boolP (now c))),(20,.p (lists ls)),(21,.p (natP ls.length)),(22,.p (natP k)),(28,.p (.list .any 1 (blP n now))),(29,.p (natP n)),(30,.p (natP c)),(35,.p (ints l)),(36,.p (natP l.length)),(37,.p (natP j))], [(8,.vec 4 1 (blP n fun r => addU n now l c r || addJ n (now c) c (l.take j) r))]⟩) (by first | rfl | (simp only [go_sem, List.take_zero, addJ_nil, Bool.or_false]; first | done | rfl)) trivial ?_
      intro j hj _
      by_cases hjl : j < l.length
      · obtain ⟨w, hw⟩ := get_some hjl
        have hwb := hlx w (List.mem_of_getElem? hw)
        have htw := take_succ_of hw
        obtain ⟨i, hi⟩ : ∃ i : Nat, ((c : Int) + w) % n = i := ⟨(((c : Int) + w) % n).toNat, by have := Int.emod_nonneg ((c : Int) + w) (show (n : Int) ≠ 0 by omega); omega⟩
        have hin : i < n := by have := Int.emod_lt_of_pos ((c : Int) + w) (show (0 : Int) < n by omega); omega
        have hgi := bl_get (fun r => addU n now l c r || addJ n (now c) c (l.take j) r) hin
        have hset : (blP n fun r => addU n now l c r || addJ n (now c) c (l.take j) r).set i (boolP ((addU n now l c i || addJ n (now c) c (l.take j) i) || now c)) = blP n fun r => addU n now l c r || addJ n (now c) c (l.take (j + 1)) r := by
          rw [blP_set]
          refine blP_congr fun r hr => ?_
          rw [htw, addJ_snoc, hi]
          by_cases e : r = i
          · subst e; simp [Bool.or_assoc]
          · have : ((i : Int) == (r : Int)) = false := by rw [beq_eq_false_iff_ne]; omega
            simp [e, this]
        cases hbb : (addU n now l c i || addJ n (now c) c (l.take j) i) with
        | true =>
          rw [hbb] at hset hgi
          rw [Bool.true_or] at hset
          simp only [go_sem, bl_length, hjl, lof_getD hw, hi, lof_getD hgi]
          rw [← hset]
          (repeat' (first | assumption | (rw [InK_i64]; omega) | (rw [InK_u8]; omega) | (rw [InK_u64]; omega) | omega | rfl | apply And.intro))
        | false =>
          rw [hbb] at hset hgi
          rw [Bool.false_or] at hset
          simp only [go_sem, bl_length, hjl, lof_getD hw, hi, lof_getD hgi]
          rw [← hset]
          (repeat' (first | assumption | (rw [InK_i64]; omega) | (rw [InK_u8]; omega) | (rw [InK_u64]; omega) | omega | rfl | apply And.intro))
      · obtain rfl : j = l.length := by omega
        have e : (blP n fun r => addU n now l c r || addJ n (now c) c (l.take l.length) r) = blP n (addU n now l (c + 1)) := blP_congr fun r hr => by rw [List.take_length, addU_succ]
        rw [e]
        simp only [go_sem, Nat.lt_irrefl]
        (repeat' (first | assumption | (rw [InK_i64]; omega) | (rw [InK_u8]; omega) | (rw [InK_u64]; omega) | omega | rfl | apply And.intro))
    · obtain rfl : c = n := by omega
      simp only [go_sem, Nat.lt_irrefl, hsn]
      (repeat' (first | assumption | (rw [InK_i64]; omega) | (rw [InK_u8]; omega) | (rw [InK_u64]; omega) | omega | rfl | apply And.intro))
  · obtain rfl : k = ls.length := by omega
    rw [List.take_length]
    simp only [go_sem, Nat.lt_irrefl, bl_length]
    refine vfor [13,63,64,65] [13] [.seal 5, .nilS 13 3 1] n (fun _ => True) (fun c => ⟨[(13,.sl 13),(63,.p (.list .any 1 (blP n (nowM n ls)))),(64,.p (natP n)),(65,.p (natP c))], [(13,.vec 3 1 (lof intP (ofN ((List.range c).filter (nowM n ls)))))]⟩) (by first | rfl | (simp only [go_sem]; first | done | rfl)) trivial ?_
    intro c hc _
    have hfl : ((List.range c).filter (nowM n ls)).length ≤ c := Nat.le_trans (List.length_filter_le _ _) (by simp)
    by_cases hcl : c < n
    · have hg := bl_get (nowM n ls) hcl
      cases hb : nowM n ls c with
      | true =>
        rw [hb] at hg
        have e : ofN ((List.range c ++ [c]).filter (nowM n ls)) = ofN ((List.range c).filter (nowM n ls)) ++ [(c : Int)] := by rw [List.filter_append, List.filter_cons, hb]; simp [ofN]
        simp only [go_sem, bl_length, hcl, lof_getD hg, ofN_length]
        rw [e]
        exact ⟨by omega, by rw [InK_i64]; omega, by simp [lof]⟩
      | false =>
        rw [hb] at hg
        have e : ofN ((List.range c ++ [c]).filter (nowM n ls)) = ofN ((List.range c).filter (nowM n ls)) := by rw [List.filter_append, List.filter_cons, hb]; simp
        simp only [go_sem, bl_length, hcl, lof_getD hg]
        rw [e]
        (repeat' (first | assumption | (rw [InK_i64]; omega) | (rw [InK_u8]; omega) | (rw [InK_u64]; omega) | omega | rfl | apply And.intro))
    · obtain rfl : c = n := by omega
      simp only [go_sem, Nat.lt_irrefl]
      exact ex_le_refl rfl
noncomputable def tab_told7 : Tab := tabOf (fun p : (Nat) × (List (List Int)) => match p with | (n, ls) => [natP n, lists ls]) (fun p : (Nat) × (List (List Int)) => match p with | (n, ls) => 1 ≤ n ∧ n ≤ 6 ∧ ls.length ≤ 2 ∧ ∀ l ∈ ls, l.length ≤ 12 ∧ ∀ x ∈ l, 0 ≤ x ∧ x ≤ 1000) (fun p : (Nat) × (List (List Int)) => match p with | (n, ls) => ints (ofN (toldL n ls)))
theorem tab_told7_eq (n : Nat) (ls : List (List Int)) : tab_told7 [natP n, lists ls] = some (1 ≤ n ∧ n ≤ 6 ∧ ls.length ≤ 2 ∧ ∀ l ∈ ls, l.length ≤ 12 ∧ ∀ x ∈ l, 0 ≤ x ∧ x ≤ 1000, .p (ints (ofN (toldL n ls)))) := tabOf_eq (enc := fun p : (Nat) × (List (List Int)) => match p with | (n, ls) => [natP n, lists ls]) (pre := fun p : (Nat) × (List (List Int)) => match p with | (n, ls) => 1 ≤ n ∧ n ≤ 6 ∧ ls.length ≤ 2 ∧ ∀ l ∈ ls, l.length ≤ 12 ∧ ∀ x ∈ l, 0 ≤ x ∧ x ≤ 1000) (out := fun p : (Nat) × (List (List Int)) => match p with | (n, ls) => ints (ofN (toldL n ls))) (by rintro ⟨n, ls⟩ ⟨n', ls'⟩ h; simp at h; first | (simp [h]; done) | omega | (simp [h]; omega)) (n, ls)
theorem tab_told7_ok : TabOK Tryd.prog 68 tab_told7 := tabOf_ok (by rintro ⟨n, ls⟩ h; exact told7_spec n ls h)
noncomputable abbrev ent_told7 : FuncId × List Nat × Tab := (68, [0, 1], tab_told7)
attribute [go_sem] tab_told7_eq

/-! ### sums -/
def sumsM (n : Int) (a b : List Int) : List Int × Int := if (if inB n 1 6 = true then chkLs [a, b] else 1) = 0 then (ofN (toldL n.toNat [a, b]), 0) else ([], if inB n 1 6 = true then chkLs [a, b] else 1)

theorem sums7_spec (n : Int) (a : List Int) (b : List Int) (hpre : sz a.length ∧ sz b.length) : Ret Tryd.prog 39 [intP n, ints a, ints b] (resP (sumsM n a b)) := by
  refine fn_of (T := [ent_checked7, ent_told7]) (N := 22) (RO := [12, 20]) (CH := []) (KS := [0, 1, 2, 6, 7, 8, 15]) (NS := []) (fun args w => Tryd.call39 args w) Tryd.func39 rfl rfl (by simp) mixed (by kernel_rfl) ⟨tab_checked7_ok, tab_told7_ok, trivial⟩ ?_
  simp only [go_sem]
  have e := tab_checked7_eq n [a, b]
  simp only [lists, lof, List.map_cons, List.map_nil] at e
  obtain ⟨m, hm⟩ : ∃ m, (if inB n 1 6 = true then chkLs [a, b] else 1) = m := ⟨_, rfl⟩
  have hz : sz [a, b].length := by unfold sz; simp
  have hM : sumsM n a b = if m = 0 then (ofN (toldL n.toNat [a, b]), 0) else ([], m) := by unfold sumsM; rw [hm]
  rw [hM]
  rw [hm] at e
  by_cases h0 : m = 0
  · obtain ⟨hn1, hn6, hab⟩ : 1 ≤ n ∧ n ≤ 6 ∧ ∀ l ∈ [a, b], l.length ≤ 12 ∧ ∀ x ∈ l, 0 ≤ x ∧ x ≤ 1000 := by
      rw [h0] at hm
      cases hin : inB n 1 6 with
      | false => rw [hin] at hm; simp at hm
      | true =>
        rw [hin, if_pos rfl] at hm
        refine ⟨by simp [inB] at hin; omega, by simp [inB] at hin; omega, ?_⟩
        simp only [chkLs] at hm
        by_cases ha : chkL a = 0
        · rw [if_pos ha] at hm
          by_cases hb : chkL b = 0
          · intro l hl
            simp only [List.mem_cons, List.not_mem_nil, or_false] at hl
            rcases hl with rfl | rfl
            · exact chkL_zero.1 ha
            · exact chkL_zero.1 hb
          · rw [if_neg hb] at hm; exact absurd hm hb
        · rw [if_neg ha] at hm; exact absurd hm ha
    obtain ⟨k, rfl⟩ : ∃ k : Nat, n = k := ⟨n.toNat, by omega⟩
    have e2 := tab_told7_eq k [a, b]
    simp only [lists, lof, List.map_cons, List.map_nil] at e2
    subst h0
    simp only [go_sem, e, e2]
    refine ⟨⟨hz, by simpa using hpre⟩, ⟨by omega, by omega, hab⟩, ex_le_refl rfl⟩
  · have hcb : (m != 0) = true := by simp [h0]
    rw [if_neg h0]
    simp only [go_sem, e, hcb]
    exact ⟨⟨hz, by simpa using hpre⟩, ex_le (by (repeat' (first | exact Le.refl _ | exact Le.nilS _ _ | exact Le.tight | refine Le.tuple ?_ | refine Le.list ?_ | refine Le.agg ?_ | refine LeL.cons ?_ ?_ | exact LeL.nil)))⟩
noncomputable def tab_sums7 : Tab := tabOf (fun p : (Int) × (List Int) × (List Int) => match p with | (n, a, b) => [intP n, ints a, ints b]) (fun p : (Int) × (List Int) × (List Int) => match p with | (n, a, b) => sz a.length ∧ sz b.length) (fun p : (Int) × (List Int) × (List Int) => match p with | (n, a, b) => resP (sumsM n a b))
theorem tab_sums7_eq (n : Int) (a : List Int) (b : List Int) : tab_sums7 [intP n, ints a, ints b] = some (sz a.length ∧ sz b.length, .p (resP (sumsM n a b))) := tabOf_eq (enc := fun p : (Int) × (List Int) × (List Int) => match p with | (n, a, b) => [intP n, ints a, ints b]) (pre := fun p : (Int) × (List Int) × (List Int) => match p with | (n, a, b) => sz a.length ∧ sz b.length) (out := fun p : (Int) × (List Int) × (List Int) => match p with | (n, a, b) => resP (sumsM n a b)) (by rintro ⟨n, a, b⟩ ⟨n', a', b'⟩ h; simp at h; first | (simp [h]; done) | omega | (simp [h]; omega)) (n, a, b)
theorem tab_sums7_ok : TabOK Tryd.prog 39 tab_sums7 := tabOf_ok (by rintro ⟨n, a, b⟩ h; exact sums7_spec n a b h)
noncomputable abbrev ent_sums7 : FuncId × List Nat × Tab := (39, [0, 1, 1], tab_sums7)
attribute [go_sem] tab_sums7_eq
end Go.V
