/-
  Contracts of the program's functions: sets, books inside, what follows. Conditions: none.
-/
import Derived.Test.YtaphkenfcnocbaaGreatDoorC06at
import Derived.Test.YtaphkenfcnocbaaGreatDoorVBitst
import Derived.Test.YtaphkenfcnocbaaGreatDoorP6s
set_option linter.unusedVariables false
set_option linter.unusedSimpArgs false
set_option linter.deprecated false
namespace Go.V
open Go.Proofs
set_option maxRecDepth 10000
set_option maxHeartbeats 1000000

abbrev knP (k : R6.Kn) : PV := .agg [u8P k.1, u8P k.2.1, natP k.2.2]
abbrev knsP (ks : List R6.Kn) : PV := .list .any 3 (lof knP ks)
abbrev innerP (m : Nat) (ks : List R6.Kn) : PV := .agg [u8P m, knsP ks]
@[simp] theorem lof_knP_inj {l l' : List R6.Kn} : lof knP l = lof knP l' ↔ l = l' := lof_inj (by rintro ⟨a, b, c⟩ ⟨d, e, f⟩ h; simp at h; simp; omega)
@[go_sem] theorem kns_snoc (l : List R6.Kn) (a b c : Nat) : lof knP l ++ [.agg [.val (.int .u8 (a : Int)), .val (.int .u8 (b : Int)), .val (.int .i64 (c : Int))]] = lof knP (l ++ [(a, b, c)]) := by simp [lof]
theorem getD_data (d : List UInt8) (t : List Nat) (h : d.map UInt8.toNat = t) (n : Nat) : (d.getD n 0).toNat = t.getD n 0 := by
  subst h; simp only [List.getD_eq_getElem?_getD, List.getElem?_map]; cases d[n]? <;> rfl

theorem sub8_spec (f : Nat) (o : Nat) (hpre : f < 256 ∧ o < 256) : Ret Tryz.prog 53 [u8P f, u8P o] (boolP (R6.sub f o)) := by
  refine fn_of (T := []) (N := 9) (RO := []) (CH := []) (KS := [0, 1, 4]) (NS := []) (fun args w => Tryz.call53 args w) Tryz.func53 rfl rfl (by simp) mixed (by kernel_rfl) trivial ?_
  simp only [go_sem]
  simp only [go_sem, bits_andNot8 hpre.1 hpre.2, cast_eq_zero, R6.dif_eq_zero]
  exact ex_le_refl rfl
noncomputable def tab_sub8 : Tab := tabOf (fun p : (Nat) × (Nat) => match p with | (f, o) => [u8P f, u8P o]) (fun p : (Nat) × (Nat) => match p with | (f, o) => f < 256 ∧ o < 256) (fun p : (Nat) × (Nat) => match p with | (f, o) => boolP (R6.sub f o))
theorem tab_sub8_eq (f : Nat) (o : Nat) : tab_sub8 [u8P f, u8P o] = some (f < 256 ∧ o < 256, .p (boolP (R6.sub f o))) := tabOf_eq (enc := fun p : (Nat) × (Nat) => match p with | (f, o) => [u8P f, u8P o]) (pre := fun p : (Nat) × (Nat) => match p with | (f, o) => f < 256 ∧ o < 256) (out := fun p : (Nat) × (Nat) => match p with | (f, o) => boolP (R6.sub f o)) (by rintro ⟨f, o⟩ ⟨f', o'⟩ h; simp at h; first | (simp [h]; done) | omega | (simp [h]; omega)) (f, o)
theorem tab_sub8_ok : TabOK Tryz.prog 53 tab_sub8 := tabOf_ok (by rintro ⟨f, o⟩ h; exact sub8_spec f o h)
noncomputable abbrev ent_sub8 : FuncId × List Nat × Tab := (53, [], tab_sub8)
attribute [go_sem] tab_sub8_eq

theorem tz8_spec (f : Nat) (hpre : f < 256) : Ret Tryz.prog 84 [u8P f] (natP (R6.tz8 f)) := by
  refine fn_of (T := []) (N := 6) (RO := []) (CH := []) (KS := [0, 2]) (NS := []) (fun args w => Tryz.call84 args w) Tryz.func84 rfl rfl (by simp) mixed (by kernel_rfl) trivial ?_
  simp only [go_sem]
  refine ⟨?_, ?_, ex_le_refl ?_⟩
  · revert f; decide +kernel
  · generalize List.getD _ _ _ = u; have := u.toNat_lt; rw [InK_i64]; omega
  · refine congrArg (fun n : Nat => natP n) ?_; revert f; decide +kernel
noncomputable def tab_tz8 : Tab := tabOf (fun p : (Nat) => match p with | f => [u8P f]) (fun p : (Nat) => match p with | f => f < 256) (fun p : (Nat) => match p with | f => natP (R6.tz8 f))
theorem tab_tz8_eq (f : Nat) : tab_tz8 [u8P f] = some (f < 256, .p (natP (R6.tz8 f))) := tabOf_eq (enc := fun p : (Nat) => match p with | f => [u8P f]) (pre := fun p : (Nat) => match p with | f => f < 256) (out := fun p : (Nat) => match p with | f => natP (R6.tz8 f)) (by rintro f f' h; simp at h; first | (simp [h]; done) | omega | (simp [h]; omega)) (f)
theorem tab_tz8_ok : TabOK Tryz.prog 84 tab_tz8 := tabOf_ok (by rintro f h; exact tz8_spec f h)
noncomputable abbrev ent_tz8 : FuncId × List Nat × Tab := (84, [], tab_tz8)
attribute [go_sem] tab_tz8_eq

theorem oc8_spec (f : Nat) (hpre : f < 256) : Ret Tryz.prog 85 [u8P f] (natP (R6.oc8 f)) := by
  refine fn_of (T := []) (N := 6) (RO := []) (CH := []) (KS := [0, 2]) (NS := []) (fun args w => Tryz.call85 args w) Tryz.func85 rfl rfl (by simp) mixed (by kernel_rfl) trivial ?_
  simp only [go_sem]
  refine ⟨?_, ?_, ex_le_refl ?_⟩
  · revert f; decide +kernel
  · generalize List.getD _ _ _ = u; have := u.toNat_lt; rw [InK_i64]; omega
  · refine congrArg (fun n : Nat => natP n) ?_; revert f; decide +kernel
noncomputable def tab_oc8 : Tab := tabOf (fun p : (Nat) => match p with | f => [u8P f]) (fun p : (Nat) => match p with | f => f < 256) (fun p : (Nat) => match p with | f => natP (R6.oc8 f))
theorem tab_oc8_eq (f : Nat) : tab_oc8 [u8P f] = some (f < 256, .p (natP (R6.oc8 f))) := tabOf_eq (enc := fun p : (Nat) => match p with | f => [u8P f]) (pre := fun p : (Nat) => match p with | f => f < 256) (out := fun p : (Nat) => match p with | f => natP (R6.oc8 f)) (by rintro f f' h; simp at h; first | (simp [h]; done) | omega | (simp [h]; omega)) (f)
theorem tab_oc8_ok : TabOK Tryz.prog 85 tab_oc8 := tabOf_ok (by rintro f h; exact oc8_spec f h)
noncomputable abbrev ent_oc8 : FuncId × List Nat × Tab := (85, [], tab_oc8)
attribute [go_sem] tab_oc8_eq

theorem list8_spec (f : Nat) (hpre : f < 256) : Ret Tryz.prog 48 [u8P f] (ints (R6.lst f)) := by
  refine fn_of (T := [ent_tz8]) (N := 16) (RO := [13]) (CH := []) (KS := [0, 2, 3, 5]) (NS := [2, 3, 14]) (fun args w => Tryz.call48 args w) Tryz.func48 rfl rfl (by simp) mixed (by kernel_rfl) ⟨tab_tz8_ok, trivial⟩ ?_
  simp only [go_sem]
  refine vwhile [0,3] [3] [.nilS 3 3 1] (fun d : Nat × List Int => d.1 < 256 ∧ d.2.length ≤ 8 ∧ d.2 ++ R6.lst d.1 = R6.lst f) (fun d => d.1) (fun d => ⟨[(0,.p (u8P d.1)),(3,.sl 3)], [(3, .vec 3 1 (lof intP d.2))]⟩) (f, []) (by first | rfl | (simp only [go_sem]; first | done | rfl)) ⟨hpre, by simp, rfl⟩ ?_
  rintro ⟨g, o⟩ ⟨hg, ho, hI⟩
  simp only at hg ho hI
  by_cases h0 : g = 0
  · subst h0
    simp only [go_sem]
    exact ex_le_refl (by rw [← hI]; simp [R6.lst])
  · have hs := R6.lst_step g hg h0
    have hlen : o.length + 1 ≤ 8 := by
      have h1 := congrArg List.length hI
      have h2 := R6.lst_length f
      rw [hs.1] at h1; simp at h1; omega
    have e : ((g : Int) - 1) = ((g - 1 : Nat) : Int) := by omega
    simp only [go_sem, show ((g : Int) != 0) = true by simp [h0], hg, e, bits_and8 hg (show g - 1 < 256 by omega)]
    refine ⟨by omega, by rw [InK_u8]; omega, (g &&& (g - 1), o ++ [(R6.tz8 g : Int)]), hs.2, ⟨by omega, by simp; omega, ?_⟩, rfl⟩
    rw [← hI, hs.1]; simp
noncomputable def tab_list8 : Tab := tabOf (fun p : (Nat) => match p with | f => [u8P f]) (fun p : (Nat) => match p with | f => f < 256) (fun p : (Nat) => match p with | f => ints (R6.lst f))
theorem tab_list8_eq (f : Nat) : tab_list8 [u8P f] = some (f < 256, .p (ints (R6.lst f))) := tabOf_eq (enc := fun p : (Nat) => match p with | f => [u8P f]) (pre := fun p : (Nat) => match p with | f => f < 256) (out := fun p : (Nat) => match p with | f => ints (R6.lst f)) (by rintro f f' h; simp at h; first | (simp [h]; done) | omega | (simp [h]; omega)) (f)
theorem tab_list8_ok : TabOK Tryz.prog 48 tab_list8 := tabOf_ok (by rintro f h; exact list8_spec f h)
noncomputable abbrev ent_list8 : FuncId × List Nat × Tab := (48, [], tab_list8)
attribute [go_sem] tab_list8_eq

theorem read6_spec (l : List Int) (n : Int) (hpre : sz l.length ∧ 1 ≤ n ∧ n ≤ 6) : Ret Tryz.prog 81 [ints l, intP n] (.tuple [u8P (R6.readM n l).1, errP (R6.readM n l).2]) := by
  refine fn_of (T := []) (N := 35) (RO := []) (CH := []) (KS := [0, 1, 4, 5, 6, 7, 9, 10, 11, 12, 13, 16, 24]) (NS := []) (fun args w => Tryz.call81 args w) Tryz.func81 rfl rfl (by simp) mixed (by kernel_rfl) trivial ?_
  simp only [go_sem]
  refine vwhile [0,1,6,7,10,11,12] [] [] (fun d : Nat × Nat × Int => d.1 ≤ l.length ∧ d.2.1 < 2 ^ n.toNat ∧ -1 ≤ d.2.2 ∧ d.2.2 < n ∧ R6.readErr n l (-1) = R6.readErr n (l.drop d.1) d.2.2 ∧ R6.maskOf l = (l.drop d.1).foldl (fun o x => o ||| 2 ^ x.toNat) d.2.1)
    (fun d => l.length - d.1) (fun d => ⟨[(0,.p (ints l)),(1,.p (intP n)),(6,.p (u8P d.2.1)),(7,.p (intP d.2.2)),(10,.p (ints l)),(11,.p (natP l.length)),(12,.p (natP d.1))], []⟩) (0, 0, -1) (by first | rfl | (simp only [go_sem]; first | done | rfl)) ⟨by simp, Nat.two_pow_pos _, by simp, by simp; omega, rfl, rfl⟩ ?_
  rintro ⟨k, o, la⟩ ⟨hk, ho, hl1, hl2, hE, hM⟩
  simp only at hk ho hl1 hl2 hE hM
  have h64 := R6.pow_le64 hpre.2.2
  by_cases hlt : k < l.length
  · obtain ⟨x, hx⟩ := get_some hlt
    have hd : l.drop k = x :: l.drop (k + 1) := by rw [List.drop_eq_getElem_cons hlt]; simp [List.getElem?_eq_getElem hlt] at hx; rw [hx]
    rw [hd] at hE hM
    rw [R6.readErr_cons] at hE
    by_cases h1 : x < 0
    · rw [if_pos (by omega)] at hE
      simp only [go_sem, hlt, lof_getD hx, h1]
      exact ex_le_refl (by simp [R6.readM, R6.listed_eq, hE])
    · by_cases h2 : n ≤ x
      · rw [if_pos (by omega)] at hE
        simp only [go_sem, hlt, lof_getD hx, h1, h2]
        exact ex_le_refl (by simp [R6.readM, R6.listed_eq, hE])
      · rw [if_neg (by omega)] at hE
        by_cases h3 : x ≤ la
        · rw [if_pos (by omega)] at hE
          simp only [go_sem, hlt, lof_getD hx, h1, h2, h3]
          exact ex_le_refl (by simp [R6.readM, R6.listed_eq, hE])
        · rw [if_neg h3] at hE
          obtain ⟨j, rfl⟩ : ∃ j : Nat, x = j := ⟨x.toNat, by omega⟩
          have hj : 2 ^ j < 2 ^ n.toNat := Nat.pow_lt_pow_right (by omega) (by omega)
          have hp := Nat.two_pow_pos j
          simp only [go_sem, hlt, lof_getD hx, h1, h2, h3, shl_one, bits_or8 (show o < 256 by omega) (show 2 ^ j < 256 by omega)]
          refine ⟨⟨by omega, by rw [InK_u8]; omega⟩, by rw [InK_i64]; omega, (k + 1, o ||| 2 ^ j, (j : Int)), by simp only; omega, ⟨by simp only; omega, Nat.or_lt_two_pow ho hj, by simp only; omega, by simp only; omega, hE, ?_⟩, rfl⟩
          rw [hM]; rfl
  · simp only [go_sem, hlt]
    have hd : l.drop k = [] := List.drop_of_length_le (by omega)
    rw [hd] at hE hM
    exact ex_le_refl (by simp [R6.readM, R6.listed_eq, hE, R6.readErr, hM])
noncomputable def tab_read6 : Tab := tabOf (fun p : (List Int) × (Int) => match p with | (l, n) => [ints l, intP n]) (fun p : (List Int) × (Int) => match p with | (l, n) => sz l.length ∧ 1 ≤ n ∧ n ≤ 6) (fun p : (List Int) × (Int) => match p with | (l, n) => .tuple [u8P (R6.readM n l).1, errP (R6.readM n l).2])
theorem tab_read6_eq (l : List Int) (n : Int) : tab_read6 [ints l, intP n] = some (sz l.length ∧ 1 ≤ n ∧ n ≤ 6, .p (.tuple [u8P (R6.readM n l).1, errP (R6.readM n l).2])) := tabOf_eq (enc := fun p : (List Int) × (Int) => match p with | (l, n) => [ints l, intP n]) (pre := fun p : (List Int) × (Int) => match p with | (l, n) => sz l.length ∧ 1 ≤ n ∧ n ≤ 6) (out := fun p : (List Int) × (Int) => match p with | (l, n) => .tuple [u8P (R6.readM n l).1, errP (R6.readM n l).2]) (by rintro ⟨l, n⟩ ⟨l', n'⟩ h; simp at h; first | (simp [h]; done) | omega | (simp [h]; omega)) (l, n)
theorem tab_read6_ok : TabOK Tryz.prog 81 tab_read6 := tabOf_ok (by rintro ⟨l, n⟩ h; exact read6_spec l n h)
noncomputable abbrev ent_read6 : FuncId × List Nat × Tab := (81, [1], tab_read6)
attribute [go_sem] tab_read6_eq
abbrev openedP (n : Int) (l : R6.Bk) : PV := innerP (R6.openedM n l).1 (R6.openedM n l).2
theorem full_nat (j : Nat) : (((2 ^ j : Nat) : Int) - 1) = ((2 ^ j - 1 : Nat) : Int) := by have := Nat.two_pow_pos j; omega

theorem opened6_spec (n : Int) (l : List (List Int × List Int)) (hpre : BkOK l) : Ret Tryz.prog 44 [bookP n l] (.tuple [openedP n l, errP (R6.check n l)]) := by
  refine fn_of (T := [ent_read6]) (N := 75) (RO := [1, 6, 70]) (CH := []) (KS := [0, 1, 2, 3, 4, 5, 6, 7, 8, 9, 10, 20, 32, 33, 34, 35, 48, 60]) (NS := [2, 4, 71, 900]) (fun args w => Tryz.call44 args w) Tryz.func44 rfl rfl (by simp) mixed (by kernel_rfl) ⟨tab_read6_ok, trivial⟩ ?_
  simp only [go_sem]
  by_cases h1 : n < 1
  · simp only [go_sem, h1]
    have hc : R6.check n l = 1 := by simp [R6.check, R6.inI]; omega
    refine ex_le ?_
    rw [openedP, R6.openedM_err (by rw [hc]; decide), hc]
    (repeat' (first | exact Le.refl _ | exact Le.nilS _ _ | exact Le.tight | refine Le.tuple ?_ | refine Le.list ?_ | refine Le.agg ?_ | refine LeL.cons ?_ ?_ | exact LeL.nil))
  · by_cases h6 : 6 < n
    · simp only [go_sem, h1, h6]
      have hc : R6.check n l = 1 := by simp [R6.check, R6.inI]; omega
      refine ex_le ?_
      rw [openedP, R6.openedM_err (by rw [hc]; decide), hc]
      (repeat' (first | exact Le.refl _ | exact Le.nilS _ _ | exact Le.tight | refine Le.tuple ?_ | refine Le.list ?_ | refine Le.agg ?_ | refine LeL.cons ?_ ?_ | exact LeL.nil))
    · have hin : R6.inI n 1 6 = true := by simp [R6.inI]; omega
      by_cases h8 : (8 : Int) < l.length
      · simp only [go_sem, h1, h6, h8]
        have hc : R6.check n l = 3 := by simp [R6.check, hin]; omega
        refine ex_le ?_
        rw [openedP, R6.openedM_err (by rw [hc]; decide), hc]
        (repeat' (first | exact Le.refl _ | exact Le.nilS _ _ | exact Le.tight | refine Le.tuple ?_ | refine Le.list ?_ | refine Le.agg ?_ | refine LeL.cons ?_ ?_ | exact LeL.nil))
      · obtain ⟨j, rfl⟩ : ∃ j : Nat, n = j := ⟨n.toNat, by omega⟩
        have h64 := R6.pow_le64 (show (j : Int) ≤ 6 by omega)
        rw [Int.toNat_natCast] at h64
        have hp := Nat.two_pow_pos j
        simp only [go_sem, h1, h6, h8, shl_one, full_nat]
        refine ⟨⟨by omega, by rw [InK_u8]; omega⟩, by rw [InK_u8]; omega, ?_⟩
        refine vfor [1,2,4,32,33,34] [2,4,900,71] [.nilC 4 1 900 109 3, .ren 71 900] l.length (fun k => ∀ i, i < k → R6.checkAt j l i = none)
          (fun k => ⟨[(1,.p (.ref [intP j, sents l] 0)),(2,.ptr 2 0),(4,.ptr 4 0),(32,.p (sents l)),(33,.p (natP l.length)),(34,.p (natP k))], [(2, .cells 93 [.p (u8P 0), .p (.val (.slice none 0 0))]), (4, .cells 93 [.p (u8P (2 ^ j - 1)), .sl 900]), (900, .vec 109 3 (lof knP (R6.knU l k)))]⟩) (by first | rfl | (simp only [go_sem]; first | done | rfl)) (by simp) ?_
        intro k hk hI
        by_cases hlt : k < l.length
        · obtain ⟨x, hx⟩ := get_some hlt
          have hok := hpre.at hx
          have hxd : R6.sAt l k = x := by simp [R6.sAt, hx]
          by_cases e1 : R6.listed x.1 j = 0
          · have b1 := R6.maskOf_lt64 (show (j : Int) ≤ 6 by omega) e1
            by_cases e2 : R6.listed x.2 j = 0
            · have b2 := R6.maskOf_lt64 (show (j : Int) ≤ 6 by omega) e2
              simp only [go_sem, hlt, lof_getD hx, R6.readM_ok e1, R6.readM_ok e2]
              have hn : R6.checkAt j l k = none := by simp [R6.checkAt, R6.sentErr, hx, e1, e2]
              have hI' := R6.below_succ hI hn
              refine ⟨⟨hok.1, by omega, by omega⟩, ⟨hok.2, by omega, by omega⟩, ?_⟩
              rw [show R6.knU l (k + 1) = R6.knU l k ++ [(R6.maskOf x.1, R6.maskOf x.2, k)] by rw [R6.knU_succ, R6.knAt, hxd]]
              have hkl := R6.knU_length l k
              (repeat' (first | assumption | (rw [InK_i64]; omega) | (rw [InK_u8]; omega) | (rw [InK_u64]; omega) | omega | rfl | apply And.intro))
            · simp only [go_sem, hlt, lof_getD hx, R6.readM_ok e1, R6.readM_err e2, show (R6.listed x.2 j != 0) = true by simp [e2]]
              have hn : R6.checkAt j l k = some (R6.listed x.2 j) := by simp [R6.checkAt, R6.sentErr, hx, e1, e2]
              have hc := R6.check_hit hin (by omega) hI hlt hn
              refine ⟨⟨hok.1, by omega, by omega⟩, ⟨hok.2, by omega, by omega⟩, ex_le ?_⟩
              rw [openedP, R6.openedM_err (by rw [hc]; exact e2), hc]
              (repeat' (first | exact Le.refl _ | exact Le.nilS _ _ | exact Le.tight | refine Le.tuple ?_ | refine Le.list ?_ | refine Le.agg ?_ | refine LeL.cons ?_ ?_ | exact LeL.nil))
          · simp only [go_sem, hlt, lof_getD hx, R6.readM_err e1, show (R6.listed x.1 j != 0) = true by simp [e1]]
            have hn : R6.checkAt j l k = some (R6.listed x.1 j) := by simp [R6.checkAt, R6.sentErr, hx, e1]
            have hc := R6.check_hit hin (by omega) hI hlt hn
            refine ⟨⟨hok.1, by omega, by omega⟩, ex_le ?_⟩
            rw [openedP, R6.openedM_err (by rw [hc]; exact e1), hc]
            (repeat' (first | exact Le.refl _ | exact Le.nilS _ _ | exact Le.tight | refine Le.tuple ?_ | refine Le.list ?_ | refine Le.agg ?_ | refine LeL.cons ?_ ?_ | exact LeL.nil))
        · simp only [go_sem, hlt]
          obtain rfl : k = l.length := by omega
          have hc := R6.check_none hin (by omega) hI
          refine ex_le ?_
          rw [openedP, R6.openedM_ok hc, hc, Int.toNat_natCast]
          (repeat' (first | exact Le.refl _ | exact Le.nilS _ _ | exact Le.tight | refine Le.tuple ?_ | refine Le.list ?_ | refine Le.agg ?_ | refine LeL.cons ?_ ?_ | exact LeL.nil))
noncomputable def tab_opened6 : Tab := tabOf (fun p : (Int) × (List (List Int × List Int)) => match p with | (n, l) => [bookP n l]) (fun p : (Int) × (List (List Int × List Int)) => match p with | (n, l) => BkOK l) (fun p : (Int) × (List (List Int × List Int)) => match p with | (n, l) => .tuple [openedP n l, errP (R6.check n l)])
theorem tab_opened6_eq (n : Int) (l : List (List Int × List Int)) : tab_opened6 [bookP n l] = some (BkOK l, .p (.tuple [openedP n l, errP (R6.check n l)])) := tabOf_eq (enc := fun p : (Int) × (List (List Int × List Int)) => match p with | (n, l) => [bookP n l]) (pre := fun p : (Int) × (List (List Int × List Int)) => match p with | (n, l) => BkOK l) (out := fun p : (Int) × (List (List Int × List Int)) => match p with | (n, l) => .tuple [openedP n l, errP (R6.check n l)]) (by rintro ⟨n, l⟩ ⟨n', l'⟩ h; simp at h; first | (simp [h]; done) | omega | (simp [h]; omega)) (n, l)
theorem tab_opened6_ok : TabOK Tryz.prog 44 tab_opened6 := tabOf_ok (by rintro ⟨n, l⟩ h; exact opened6_spec n l h)
noncomputable abbrev ent_opened6 : FuncId × List Nat × Tab := (44, [2], tab_opened6)
attribute [go_sem] tab_opened6_eq

theorem asked6s_spec (n : Int) (l : List (List Int × List Int)) (set : List Int) (hpre : BkOK l ∧ sz set.length) : Ret Tryz.prog 96 [bookP n l, ints set] (.tuple [openedP n l, u8P (R6.askedM n l set), errP (R6.asked n l set)]) := by
  refine fn_of (T := [ent_opened6, ent_read6]) (N := 29) (RO := [2, 7]) (CH := []) (KS := [0, 1, 2, 4, 5, 6, 7, 8, 9, 16]) (NS := [4]) (fun args w => Tryz.call96 args w) Tryz.func96 rfl rfl (by simp) mixed (by kernel_rfl) ⟨tab_opened6_ok, tab_read6_ok, trivial⟩ ?_
  simp only [go_sem]
  by_cases h : R6.check n l = 0
  · have hn := R6.check_range h
    simp only [go_sem, h, hn.1, hn.2, hpre.1, hpre.2]
    refine ex_le_refl ?_
    have e1 : R6.asked n l set = R6.listed set n := by simp [R6.asked, h]
    have e2 : R6.readM n set = (R6.askedM n l set, R6.asked n l set) := by simp [R6.readM, R6.askedM, e1]
    rw [e2]
  · simp only [go_sem, hpre.1, hpre.2, show (R6.check n l != 0) = true by simp [h]]
    refine ex_le ?_
    have e1 : R6.asked n l set = R6.check n l := by simp [R6.asked, h]
    rw [e1, show R6.askedM n l set = 0 by simp [R6.askedM, e1, h], openedP, R6.openedM_err h]
    (repeat' (first | exact Le.refl _ | exact Le.nilS _ _ | exact Le.tight | refine Le.tuple ?_ | refine Le.list ?_ | refine Le.agg ?_ | refine LeL.cons ?_ ?_ | exact LeL.nil))
noncomputable def tab_asked6s : Tab := tabOf (fun p : (Int) × (List (List Int × List Int)) × (List Int) => match p with | (n, l, set) => [bookP n l, ints set]) (fun p : (Int) × (List (List Int × List Int)) × (List Int) => match p with | (n, l, set) => BkOK l ∧ sz set.length) (fun p : (Int) × (List (List Int × List Int)) × (List Int) => match p with | (n, l, set) => .tuple [openedP n l, u8P (R6.askedM n l set), errP (R6.asked n l set)])
theorem tab_asked6s_eq (n : Int) (l : List (List Int × List Int)) (set : List Int) : tab_asked6s [bookP n l, ints set] = some (BkOK l ∧ sz set.length, .p (.tuple [openedP n l, u8P (R6.askedM n l set), errP (R6.asked n l set)])) := tabOf_eq (enc := fun p : (Int) × (List (List Int × List Int)) × (List Int) => match p with | (n, l, set) => [bookP n l, ints set]) (pre := fun p : (Int) × (List (List Int × List Int)) × (List Int) => match p with | (n, l, set) => BkOK l ∧ sz set.length) (out := fun p : (Int) × (List (List Int × List Int)) × (List Int) => match p with | (n, l, set) => .tuple [openedP n l, u8P (R6.askedM n l set), errP (R6.asked n l set)]) (by rintro ⟨n, l, set⟩ ⟨n', l', set'⟩ h; simp at h; first | (simp [h]; done) | omega | (simp [h]; omega)) (n, l, set)
theorem tab_asked6s_ok : TabOK Tryz.prog 96 tab_asked6s := tabOf_ok (by rintro ⟨n, l, set⟩ h; exact asked6s_spec n l set h)
noncomputable abbrev ent_asked6s : FuncId × List Nat × Tab := (96, [2, 1], tab_asked6s)
attribute [go_sem] tab_asked6s_eq


theorem follows8_spec (m : Nat) (ks : List R6.Kn) (f : Nat) (but : Int) (hpre : R6.KnOK ks ∧ f < 256) : Ret Tryz.prog 47 [innerP m ks, u8P f, intP but] (u8P (R6.fol ks but f)) := by
  refine fn_of (T := [ent_sub8]) (N := 39) (RO := [3, 9]) (CH := []) (KS := [0, 1, 2, 3, 6, 7, 9, 12, 13, 14, 15, 28, 37]) (NS := []) (fun args w => Tryz.call47 args w) Tryz.func47 rfl rfl (by simp) mixed (by kernel_rfl) ⟨tab_sub8_ok, trivial⟩ ?_
  simp only [go_sem]
  refine vwhile [1,2,3] [] [] (fun g : Nat => g < 256 ∧ R6.sub f g = true ∧ R6.sub g (R6.fol ks but f) = true) (fun g => 256 - g) (fun g => ⟨[(1,.p (u8P g)),(2,.p (intP but)),(3,.p (.ref [u8P m, knsP ks] 0))], []⟩) f (by first | rfl | (simp only [go_sem]; first | done | rfl)) ⟨hpre.2, R6.sub_refl f, R6.sub_clo hpre.2⟩ ?_
  rintro g ⟨hg, h1, h2⟩
  simp only [go_sem]
  refine vfor [1,2,3,7,12,13,14] [] [] ks.length (fun _ => True) (fun k => ⟨[(1,.p (u8P (R6.roundK (ks.take k) but g))),(2,.p (intP but)),(3,.p (.ref [u8P m, knsP ks] 0)),(7,.p (u8P g)),(12,.p (knsP ks)),(13,.p (natP ks.length)),(14,.p (natP k))], []⟩) (by first | rfl | (simp only [go_sem]; first | done | rfl)) trivial ?_
  intro k hk _
  have hr := R6.roundK_lt hpre.1 but hg k
  by_cases hlt : k < ks.length
  · obtain ⟨x, hx⟩ := get_some hlt
    have hok := hpre.1.2 x (List.mem_of_getElem? hx)
    have hl8 := hpre.1.1
    have hs := R6.roundK_take ks but g hx
    generalize R6.roundK (ks.take k) but g = q at *
    by_cases hb : ((x.2.2 : Int) != but) = true
    · by_cases hp : R6.sub x.1 q = true
      · simp only [go_sem, hlt, lof_getD hx, hb, hp, hok.1, hok.2, hr, bits_or8 hr hok.2]
        rw [hs, show R6.stepK but q x = q ||| x.2.1 by simp [R6.stepK, hb, hp]]
        (repeat' (first | assumption | (rw [InK_i64]; omega) | (rw [InK_u8]; omega) | (rw [InK_u64]; omega) | omega | rfl | apply And.intro))
      · rw [Bool.not_eq_true] at hp
        simp only [go_sem, hlt, lof_getD hx, hb, hp, hok.1, hok.2, hr]
        rw [hs, show R6.stepK but q x = q by simp [R6.stepK, hp]]
        (repeat' (first | assumption | (rw [InK_i64]; omega) | (rw [InK_u8]; omega) | (rw [InK_u64]; omega) | omega | rfl | apply And.intro))
    · rw [Bool.not_eq_true] at hb
      simp only [go_sem, hlt, lof_getD hx, hb]
      rw [hs, show R6.stepK but q x = q by simp [R6.stepK, hb]]
      (repeat' (first | assumption | (rw [InK_i64]; omega) | (rw [InK_u8]; omega) | (rw [InK_u64]; omega) | omega | rfl | apply And.intro))
  · obtain rfl : k = ks.length := by omega
    rw [List.take_length] at *
    have h3 := R6.fol_round hpre.1 h1 h2
    by_cases he : R6.roundK ks but g = g
    · simp only [go_sem, hlt, he]
      exact ex_le_refl (by rw [← R6.fol_fix hpre.1 hg h1 h2 he])
    · simp only [go_sem, hlt, show ((R6.roundK ks but g : Int) == (g : Int)) = false by simp; omega]
      have := R6.round_grow he
      exact ⟨R6.roundK ks but g, by omega, ⟨hr, h3.1, h3.2⟩, rfl⟩
noncomputable def tab_follows8 : Tab := tabOf (fun p : (Nat) × (List R6.Kn) × (Nat) × (Int) => match p with | (m, ks, f, but) => [innerP m ks, u8P f, intP but]) (fun p : (Nat) × (List R6.Kn) × (Nat) × (Int) => match p with | (m, ks, f, but) => R6.KnOK ks ∧ f < 256) (fun p : (Nat) × (List R6.Kn) × (Nat) × (Int) => match p with | (m, ks, f, but) => u8P (R6.fol ks but f))
theorem tab_follows8_eq (m : Nat) (ks : List R6.Kn) (f : Nat) (but : Int) : tab_follows8 [innerP m ks, u8P f, intP but] = some (R6.KnOK ks ∧ f < 256, .p (u8P (R6.fol ks but f))) := tabOf_eq (enc := fun p : (Nat) × (List R6.Kn) × (Nat) × (Int) => match p with | (m, ks, f, but) => [innerP m ks, u8P f, intP but]) (pre := fun p : (Nat) × (List R6.Kn) × (Nat) × (Int) => match p with | (m, ks, f, but) => R6.KnOK ks ∧ f < 256) (out := fun p : (Nat) × (List R6.Kn) × (Nat) × (Int) => match p with | (m, ks, f, but) => u8P (R6.fol ks but f)) (by rintro ⟨m, ks, f, but⟩ ⟨m', ks', f', but'⟩ h; simp at h; first | (simp [h]; done) | omega | (simp [h]; omega)) (m, ks, f, but)
theorem tab_follows8_ok : TabOK Tryz.prog 47 tab_follows8 := tabOf_ok (by rintro ⟨m, ks, f, but⟩ h; exact follows8_spec m ks f but h)
noncomputable abbrev ent_follows8 : FuncId × List Nat × Tab := (47, [3], tab_follows8)
attribute [go_sem] tab_follows8_eq


theorem Follows6s_spec (n : Int) (l : List (List Int × List Int)) (set : List Int) (hpre : BkOK l ∧ sz set.length) : Ret Tryz.prog 60 [bookP n l, ints set] (.tuple [ints (if R6.asked n l set = 0 then R6.lst (R6.fol (R6.openedM n l).2 (-1) (R6.askedM n l set)) else []), errP (R6.asked n l set)]) := by
  refine fn_of (T := [ent_asked6s, ent_follows8, ent_list8]) (N := 23) (RO := [2, 6]) (CH := []) (KS := [0, 1, 2, 4, 5, 6, 7, 8, 17]) (NS := []) (fun args w => Tryz.call60 args w) Tryz.func60 rfl rfl (by simp) mixed (by kernel_rfl) ⟨tab_asked6s_ok, tab_follows8_ok, tab_list8_ok, trivial⟩ ?_
  simp only [go_sem]
  refine ⟨hpre, ?_⟩
  have hlt := R6.askedM_lt n l set
  by_cases h : R6.asked n l set = 0
  · have hk : R6.KnOK (R6.openedM n l).2 := by rw [R6.openedM_ok (R6.asked_check h)]; exact R6.knU_OK (R6.asked_check h)
    simp only [go_sem, h]
    exact ⟨⟨hk, by omega⟩, R6.fol_lt _ _ _, ex_le_refl (by simp)⟩
  · simp only [go_sem, show (R6.asked n l set != 0) = true by simp [h], h]
    refine ex_le ?_
    (repeat' (first | exact Le.refl _ | exact Le.nilS _ _ | exact Le.tight | refine Le.tuple ?_ | refine Le.list ?_ | refine Le.agg ?_ | refine LeL.cons ?_ ?_ | exact LeL.nil))
noncomputable def tab_Follows6s : Tab := tabOf (fun p : (Int) × (List (List Int × List Int)) × (List Int) => match p with | (n, l, set) => [bookP n l, ints set]) (fun p : (Int) × (List (List Int × List Int)) × (List Int) => match p with | (n, l, set) => BkOK l ∧ sz set.length) (fun p : (Int) × (List (List Int × List Int)) × (List Int) => match p with | (n, l, set) => .tuple [ints (if R6.asked n l set = 0 then R6.lst (R6.fol (R6.openedM n l).2 (-1) (R6.askedM n l set)) else []), errP (R6.asked n l set)])
theorem tab_Follows6s_eq (n : Int) (l : List (List Int × List Int)) (set : List Int) : tab_Follows6s [bookP n l, ints set] = some (BkOK l ∧ sz set.length, .p (.tuple [ints (if R6.asked n l set = 0 then R6.lst (R6.fol (R6.openedM n l).2 (-1) (R6.askedM n l set)) else []), errP (R6.asked n l set)])) := tabOf_eq (enc := fun p : (Int) × (List (List Int × List Int)) × (List Int) => match p with | (n, l, set) => [bookP n l, ints set]) (pre := fun p : (Int) × (List (List Int × List Int)) × (List Int) => match p with | (n, l, set) => BkOK l ∧ sz set.length) (out := fun p : (Int) × (List (List Int × List Int)) × (List Int) => match p with | (n, l, set) => .tuple [ints (if R6.asked n l set = 0 then R6.lst (R6.fol (R6.openedM n l).2 (-1) (R6.askedM n l set)) else []), errP (R6.asked n l set)]) (by rintro ⟨n, l, set⟩ ⟨n', l', set'⟩ h; simp at h; first | (simp [h]; done) | omega | (simp [h]; omega)) (n, l, set)
theorem tab_Follows6s_ok : TabOK Tryz.prog 60 tab_Follows6s := tabOf_ok (by rintro ⟨n, l, set⟩ h; exact Follows6s_spec n l set h)
noncomputable abbrev ent_Follows6s : FuncId × List Nat × Tab := (60, [2, 1], tab_Follows6s)
attribute [go_sem] tab_Follows6s_eq

end Go.V
