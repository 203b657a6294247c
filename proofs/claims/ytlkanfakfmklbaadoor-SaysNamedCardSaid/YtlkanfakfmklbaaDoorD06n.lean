/-
  Contract of the law SaysNamed. Conditions: none.
-/
import Derived.Test.YtlkanfakfmklbaaDoorC06d
import Derived.Test.YtlkanfakfmklbaaDoorP7b
import Derived.Test.YtlkanfakfmklbaaDoorP6x
import Derived.Test.YtlkanfakfmklbaaDoorVIns
import Derived.Test.YtlkanfakfmklbaaDoorNamLy
set_option linter.unusedVariables false
set_option linter.unusedSimpArgs false
set_option linter.deprecated false
namespace Go.V
open Go.Proofs R6
set_option maxRecDepth 100000
set_option maxHeartbeats 4000000

@[simp] theorem ofN_inj {a b : List Nat} : R6.ofN a = R6.ofN b ↔ a = b := by
  constructor
  · intro h
    have := congrArg (List.map Int.toNat) h
    simpa [R6.ofN, List.map_map, Function.comp_def] using this
  · rintro rfl; rfl
theorem ofN_snoc (l : List Nat) (x : Nat) : R6.ofN l ++ [(x : Int)] = R6.ofN (l ++ [x]) := by simp [R6.ofN]

theorem mov1_spec (s : Nat) (T : List Nat) (hpre : s < 2 ^ T.length ∧ T.length ≤ 6 ∧ ∀ x ∈ T, x < 6) : Ret Tryd.prog 20 [u64P s, .ref [ints (R6.ofN T)] 0] (u64P (R6.movM T s)) := by
  refine fn_of (T := [ent_members]) (N := 23) (RO := []) (CH := []) (KS := [0, 1, 3, 4, 6, 8, 9, 10, 11]) (NS := []) (fun args w => Tryd.call20 args w) Tryd.func20 rfl rfl (by simp) mixed (by kernel_rfl) ⟨tab_members_ok, trivial⟩ ?_
  simp only [go_sem, ↓reduceIte, Nat.reduceLT, Nat.reduceLeDiff, Nat.reduceEqDiff, Nat.reduceAdd, Nat.reduceSub, Nat.reduceDiv, Nat.reduceMod, Nat.reduceMul, Nat.reduceBEq, Nat.reduceBNe, reduceCtorEq, Int.reduceLT, Int.reduceLE, Int.reduceEq, Int.reduceNe, Int.reduceBEq, Int.reduceBNe, Int.reduceAdd, Int.reduceSub, Int.reduceNeg, Int.reduceToNat]
  obtain ⟨hs, hl, hT⟩ := hpre
  have h64 := R6.pow64 (show T.length ≤ 6 by omega)
  have hmem := fun x (hx : x ∈ R6.lst s) => R6.lst_toNat_lt hs hx
  have hz := lst_sz s
  have hall := R6.movK_all T s
  have h0 : ∀ x ∈ R6.lst s, x.toNat < T.length := fun x hx => (hmem x hx).1
  refine ⟨by omega, ?_⟩
  refine vfor [1,4,8,9,10] [] [] (R6.lst s).length (fun _ => True) (fun k => ⟨[(1,.p (.ref [ints (R6.ofN T)] 0)),(4,.p (u64P (R6.movK T s k))),(8,.p (ints (R6.lst s))),(9,.p (natP (R6.lst s).length)),(10,.p (natP k))], []⟩) (by first | rfl | (simp only [go_sem, ↓reduceIte, Nat.reduceLT, Nat.reduceLeDiff, Nat.reduceEqDiff, Nat.reduceAdd, Nat.reduceSub, Nat.reduceDiv, Nat.reduceMod, Nat.reduceMul, Nat.reduceBEq, Nat.reduceBNe, reduceCtorEq, Int.reduceLT, Int.reduceLE, Int.reduceEq, Int.reduceNe, Int.reduceBEq, Int.reduceBNe, Int.reduceAdd, Int.reduceSub, Int.reduceNeg, Int.reduceToNat, R6.movK_zero]; first | done | rfl)) trivial ?_
  intro k hk _
  by_cases hlt : k < (R6.lst s).length
  · obtain ⟨x, hx⟩ := get_some hlt
    obtain ⟨hx1, hx2⟩ := hmem x (List.mem_of_getElem? hx)
    obtain ⟨y, hy⟩ := get_some hx1
    have hy6 := hT y (List.mem_of_getElem? hy)
    have hms := R6.movK_succ (T := T) hx
    have hyd : T.getD x.toNat 0 = y := by rw [List.getD_eq_getElem?_getD, hy]; rfl
    rw [hyd] at hms
    have hm1 := R6.movK_lt hT h0 k hk
    have hp6 : (2 : Nat) ^ y < 2 ^ 6 := Nat.pow_lt_pow_right (by decide) hy6
    have b1 := bits_or64 (show R6.movK T s k < 18446744073709551616 by omega) (show 2 ^ y < 18446744073709551616 by omega)
    have i1 : InK .u64 ((2 ^ y : Nat) : Int) := by rw [InK_u64]; have := Nat.two_pow_pos y; omega
    simp only [go_sem, ↓reduceIte, Nat.reduceLT, Nat.reduceLeDiff, Nat.reduceEqDiff, Nat.reduceAdd, Nat.reduceSub, Nat.reduceDiv, Nat.reduceMod, Nat.reduceMul, Nat.reduceBEq, Nat.reduceBNe, reduceCtorEq, Int.reduceLT, Int.reduceLE, Int.reduceEq, Int.reduceNe, Int.reduceBEq, Int.reduceBNe, Int.reduceAdd, Int.reduceSub, Int.reduceNeg, Int.reduceToNat, hlt, lof_getD hx, lof_getD (R6.ofN_get hy), R6.ofN_length, shl_one, b1, i1]
    rw [hms]
    (repeat' (first | assumption | exact lst_sz _ | exact bk_ok _ | exact ex_le_refl rfl | (rw [InK_i64]; omega) | (rw [InK_u8]; omega) | (rw [InK_u64]; omega) | omega | (unfold sz; omega) | (rw [R6.bk_length]; unfold sz; omega) | (rw [R6.bk_length]; omega) | rfl | apply And.intro))
  · obtain rfl : k = (R6.lst s).length := by omega
    simp only [go_sem, ↓reduceIte, Nat.reduceLT, Nat.reduceLeDiff, Nat.reduceEqDiff, Nat.reduceAdd, Nat.reduceSub, Nat.reduceDiv, Nat.reduceMod, Nat.reduceMul, Nat.reduceBEq, Nat.reduceBNe, reduceCtorEq, Int.reduceLT, Int.reduceLE, Int.reduceEq, Int.reduceNe, Int.reduceBEq, Int.reduceBNe, Int.reduceAdd, Int.reduceSub, Int.reduceNeg, Int.reduceToNat, hlt, hall]
    exact ex_le_refl rfl
noncomputable def tab_mov1 : Tab := tabOf (fun p : (Nat) × (List Nat) => match p with | (s, T) => [u64P s, .ref [ints (R6.ofN T)] 0]) (fun p : (Nat) × (List Nat) => match p with | (s, T) => s < 2 ^ T.length ∧ T.length ≤ 6 ∧ ∀ x ∈ T, x < 6) (fun p : (Nat) × (List Nat) => match p with | (s, T) => u64P (R6.movM T s))
theorem tab_mov1_eq (s : Nat) (T : List Nat) : tab_mov1 [u64P s, .ref [ints (R6.ofN T)] 0] = some (s < 2 ^ T.length ∧ T.length ≤ 6 ∧ ∀ x ∈ T, x < 6, .p (u64P (R6.movM T s))) := tabOf_eq (enc := fun p : (Nat) × (List Nat) => match p with | (s, T) => [u64P s, .ref [ints (R6.ofN T)] 0]) (pre := fun p : (Nat) × (List Nat) => match p with | (s, T) => s < 2 ^ T.length ∧ T.length ≤ 6 ∧ ∀ x ∈ T, x < 6) (out := fun p : (Nat) × (List Nat) => match p with | (s, T) => u64P (R6.movM T s)) (by rintro ⟨s, T⟩ ⟨s', T'⟩ h; simp at h; first | (simp [h]; done) | omega | (simp [h]; omega)) (s, T)
theorem tab_mov1_ok : TabOK Tryd.prog 20 tab_mov1 := tabOf_ok (by rintro ⟨s, T⟩ h; exact mov1_spec s T h)
noncomputable abbrev ent_mov1 : FuncId × List Nat × Tab := (20, [1, 1], tab_mov1)
attribute [go_sem] tab_mov1_eq

theorem SaysNamed_spec (f : Nat) (s : Nat) (A : List Nat) (one : Nat) (B : List Nat) (c : Nat) (hpre : TalkOK f s A ∧ one < 256 ∧ (B.length = 6 ∧ ∀ x ∈ B, x < 256) ∧ c < 256) : Ret Tryd.prog 4 [talkP f s A, u8P one, .agg (lof u8P B), u8P c] (boolP true) := by
  refine fn_of (T := [ent_made, ent_members, ent_sentence, ent_mov1, ent_Follows6s, ent_readLL, ent_same, ent_Base6s, ent_All6s, ent_sentences, ent_lists, ent_works]) (N := 257) (RO := [4, 6, 9, 20, 50, 70, 113, 125, 3000012, 11000024, 124000017, 124000018]) (CH := [17, 18, 22, 23, 24, 25, 65, 71, 100, 101, 114, 115, 116, 117, 126, 127, 144, 1000017, 1000018, 4066002, 4067007, 4068016, 4069019, 5000011]) (KS := [0, 1, 2, 3, 4, 6, 8, 9, 10, 11, 12, 13, 14, 15, 16, 17, 18, 19, 20, 21, 22, 23, 24, 25, 26, 27, 28, 29, 30, 31, 32, 33, 34, 35, 36, 37, 44, 45, 46, 54, 55, 56, 86, 87, 88, 177]) (NS := [11, 12, 17, 18, 51, 71, 76, 114, 126, 900, 901, 902]) (fun args w => Tryd.call4 args w) Tryd.func4 rfl rfl (by simp) mixed (by kernel_rfl) ⟨tab_made_ok, tab_members_ok, tab_sentence_ok, tab_mov1_ok, tab_Follows6s_ok, tab_readLL_ok, tab_same_ok, tab_Base6s_ok, tab_All6s_ok, tab_sentences_ok, tab_lists_ok, tab_works_ok, trivial⟩ ?_
  simp only [go_sem, ↓reduceIte, Nat.reduceLT, Nat.reduceLeDiff, Nat.reduceEqDiff, Nat.reduceAdd, Nat.reduceSub, Nat.reduceDiv, Nat.reduceMod, Nat.reduceMul, Nat.reduceBEq, Nat.reduceBNe, reduceCtorEq, Int.reduceLT, Int.reduceLE, Int.reduceEq, Int.reduceNe, Int.reduceBEq, Int.reduceBNe, Int.reduceAdd, Int.reduceSub, Int.reduceNeg, Int.reduceToNat]
  obtain ⟨ht, ho, ⟨hB, hB2⟩, hc⟩ := hpre
  have hlen := ht.2.2.1
  obtain ⟨n, hn⟩ : ∃ n, 1 + f % 5 = n := ⟨_, rfl⟩
  have h1 : 1 ≤ n := by omega
  have h5 : n ≤ 5 := by omega
  have h6 : n ≤ 6 := by omega
  obtain ⟨L, hL⟩ : ∃ L, R6.madeL (2 ^ n - 1) A (s % 9) = L := ⟨_, rfl⟩
  have hok : R6.Ok L n := hL ▸ R6.madeL_ok
  have hl : L.length ≤ 8 := by rw [← hL, R6.madeL_length]; omega
  have h64 := R6.pow64 (show n ≤ 6 by omega)
  have hp := Nat.two_pow_pos n
  have b1 := bits_and64 (show one < 18446744073709551616 by omega) (show 2 ^ n - 1 < 18446744073709551616 by omega)
  have l1 := R6.and_full_lt one n
  simp only [go_sem, ↓reduceIte, Nat.reduceLT, Nat.reduceLeDiff, Nat.reduceEqDiff, Nat.reduceAdd, Nat.reduceSub, Nat.reduceDiv, Nat.reduceMod, Nat.reduceMul, Nat.reduceBEq, Nat.reduceBNe, reduceCtorEq, Int.reduceLT, Int.reduceLE, Int.reduceEq, Int.reduceNe, Int.reduceBEq, Int.reduceBNe, Int.reduceAdd, Int.reduceSub, Int.reduceNeg, Int.reduceToNat, u8s_one, u8s_norm, u8s_take hlen, lof_length, hn, hL, shl_one, full_nat, b1]
  generalize one &&& (2 ^ n - 1) = a at *
  have hpz : R6.permK n B 0 = (List.range n, []) := rfl
  have hpi := R6.permK_inv n B
  have hpo := R6.permK_ord (n := n) (B := B) (by omega)
  have k1 := bk_ok L
  refine ⟨by omega, ht, ?_⟩
  refine vfor [1,3,6,9,10,11,12,44,45] [11,12] [.nilS 11 3 1] n (fun _ => True) (fun k => ⟨[(1,.p (u8P one)),(3,.p (u8P c)),(6,.p (.ref (lof u8P B) 0)),(9,.p (.ref [natP n, sents (R6.bk L)] 0)),(10,.p (prsP L)),(11,.sl 11),(12,.ptr 12 0),(44,.p (natP n)),(45,.p (natP k))], [(11,.vec 3 1 (lof intP (R6.ofN (List.range k)))),(12,.cells 32 [.p (.val (.slice none 0 0))])]⟩) (by first | rfl | (simp only [go_sem, ↓reduceIte, Nat.reduceLT, Nat.reduceLeDiff, Nat.reduceEqDiff, Nat.reduceAdd, Nat.reduceSub, Nat.reduceDiv, Nat.reduceMod, Nat.reduceMul, Nat.reduceBEq, Nat.reduceBNe, reduceCtorEq, Int.reduceLT, Int.reduceLE, Int.reduceEq, Int.reduceNe, Int.reduceBEq, Int.reduceBNe, Int.reduceAdd, Int.reduceSub, Int.reduceNeg, Int.reduceToNat]; first | done | rfl)) trivial ?_
  intro k hk _
  by_cases hlt : k < n
  · have hrn : (List.range k).length = k := List.length_range
    simp only [go_sem, ↓reduceIte, Nat.reduceLT, Nat.reduceLeDiff, Nat.reduceEqDiff, Nat.reduceAdd, Nat.reduceSub, Nat.reduceDiv, Nat.reduceMod, Nat.reduceMul, Nat.reduceBEq, Nat.reduceBNe, reduceCtorEq, Int.reduceLT, Int.reduceLE, Int.reduceEq, Int.reduceNe, Int.reduceBEq, Int.reduceBNe, Int.reduceAdd, Int.reduceSub, Int.reduceNeg, Int.reduceToNat, hlt]
    rw [ofN_snoc]
    exact ⟨by rw [R6.ofN_length]; omega, by rw [InK_i64]; omega, rfl⟩
  · obtain rfl : k = n := by omega
    simp only [go_sem, ↓reduceIte, Nat.reduceLT, Nat.reduceLeDiff, Nat.reduceEqDiff, Nat.reduceAdd, Nat.reduceSub, Nat.reduceDiv, Nat.reduceMod, Nat.reduceMul, Nat.reduceBEq, Nat.reduceBNe, reduceCtorEq, Int.reduceLT, Int.reduceLE, Int.reduceEq, Int.reduceNe, Int.reduceBEq, Int.reduceBNe, Int.reduceAdd, Int.reduceSub, Int.reduceNeg, Int.reduceToNat, Nat.lt_irrefl, Int.lt_irrefl]
    refine vfor [1,3,6,9,10,11,12,54,55] [11,12,900,71] [.nilC 12 0 900 3 1, .ren 71 900] k (fun _ => True) (fun j => ⟨[(1,.p (u8P one)),(3,.p (u8P c)),(6,.p (.ref (lof u8P B) 0)),(9,.p (.ref [natP k, sents (R6.bk L)] 0)),(10,.p (prsP L)),(11,.sl 11),(12,.ptr 12 0),(54,.p (natP k)),(55,.p (natP j))], [(11,.vec 3 1 (lof intP (R6.ofN (R6.permK k B j).1))),(12,.cells 32 [.sl 900]),(900,.vec 3 1 (lof intP (R6.ofN (R6.permK k B j).2)))]⟩) (by first | rfl | (simp only [go_sem, ↓reduceIte, Nat.reduceLT, Nat.reduceLeDiff, Nat.reduceEqDiff, Nat.reduceAdd, Nat.reduceSub, Nat.reduceDiv, Nat.reduceMod, Nat.reduceMul, Nat.reduceBEq, Nat.reduceBNe, reduceCtorEq, Int.reduceLT, Int.reduceLE, Int.reduceEq, Int.reduceNe, Int.reduceBEq, Int.reduceBNe, Int.reduceAdd, Int.reduceSub, Int.reduceNeg, Int.reduceToNat, hpz]; first | done | rfl)) trivial ?_
    intro j hj _
    obtain ⟨v1, v2, v3⟩ := hpi j hj (by omega)
    by_cases hjl : j < k
    · obtain ⟨x, hx⟩ := get_some (show j < B.length by omega)
      have hbx := hB2 x (List.mem_of_getElem? hx)
      have hs := R6.permK_succ (n := k) hx
      have hxl : ∀ x ∈ (R6.permK k B j).1, x < k := fun x hx => List.mem_range.1 (v3.mem_iff.1 (List.mem_append_right _ hx))
      unfold R6.stepP at hs
      generalize hl' : (R6.permK k B j).1 = l at *
      generalize ht' : (R6.permK k B j).2 = t at *
      have em2 := emod_nat x l.length
      have hml := Nat.mod_lt x (show l.length > 0 by omega)
      obtain ⟨y, hy⟩ := get_some hml
      have hyk := hxl y (List.mem_of_getElem? hy)
      have hyd : l.getD (x % l.length) 0 = y := by rw [List.getD_eq_getElem?_getD, hy]; rfl
      rw [hyd] at hs
      have e8 : (lof u8P B).getD (j * 1) default = u8P x := by rw [Nat.mul_one]; exact lof_getD hx
      simp only [go_sem, ↓reduceIte, Nat.reduceLT, Nat.reduceLeDiff, Nat.reduceEqDiff, Nat.reduceAdd, Nat.reduceSub, Nat.reduceDiv, Nat.reduceMod, Nat.reduceMul, Nat.reduceBEq, Nat.reduceBNe, reduceCtorEq, Int.reduceLT, Int.reduceLE, Int.reduceEq, Int.reduceNe, Int.reduceBEq, Int.reduceBNe, Int.reduceAdd, Int.reduceSub, Int.reduceNeg, Int.reduceToNat, hjl, e8, em2, lof_length, R6.ofN_length, lof_getD (R6.ofN_get hy), Int.toNat_natCast]
      have e9 : ((x % l.length : Nat) : Int) + 1 = ((x % l.length + 1 : Nat) : Int) := by omega
      refine ⟨by omega, by omega, by rw [InK_i64]; omega, by omega, hml, hml, fun φ => ⟨by omega, by rw [InK_i64]; omega, ?_⟩⟩
      rw [e9]
      have hlne : R6.ofN l ≠ [] := fun h => by
        have := congrArg List.length h
        rw [R6.ofN_length] at this
        have this : l.length = 0 := this
        omega
      refine vcall_deleteI (i := x % l.length) (j := x % l.length + 1) (l := R6.ofN l) Tryd.lays23 (fun args w => Tryd.call19 args w) (by simp only [go_sem, seval]; first | done | rfl) (by omega) (by rw [R6.ofN_length]; omega) hlne (by rw [R6.ofN_length]; omega) (by decide) (by simp only [go_sem, seval]; first | done | rfl) ?_
      simp only [go_sem, ↓reduceIte, Nat.reduceLT, Nat.reduceLeDiff, Nat.reduceEqDiff, Nat.reduceAdd, Nat.reduceSub, Nat.reduceDiv, Nat.reduceMod, Nat.reduceMul, Nat.reduceBEq, Nat.reduceBNe, reduceCtorEq, Int.reduceLT, Int.reduceLE, Int.reduceEq, Int.reduceNe, Int.reduceBEq, Int.reduceBNe, Int.reduceAdd, Int.reduceSub, Int.reduceNeg, Int.reduceToNat]
      refine ⟨by rw [InK_i64]; omega, hjl, ?_⟩
      rw [hs, R6.ofN_erase, ofN_snoc]
      rfl
    · obtain rfl : j = k := by omega
      have h0 : (R6.permK j B j).1 = [] := List.eq_nil_of_length_eq_zero (by omega)
      generalize hT : (R6.permK j B j).2 = T at *
      rw [h0]
      have hTl := hpo.len
      have hTlt := hpo.lt
      have hkl : (R6.rotL L c).length = L.length := R6.rotL_length L c
      have hkm : (R6.mvL T (R6.rotL L c)).length = L.length := by rw [R6.mvL_length, hkl]
      have hz0 : lof sentP ((R6.bk (R6.mvL T (R6.rotL L c))).take 0) = [] := rfl
      have hz1 : lof sentP ((R6.bk (R6.rotL L c)).take 0) = [] := rfl
      simp only [go_sem, ↓reduceIte, Nat.reduceLT, Nat.reduceLeDiff, Nat.reduceEqDiff, Nat.reduceAdd, Nat.reduceSub, Nat.reduceDiv, Nat.reduceMod, Nat.reduceMul, Nat.reduceBEq, Nat.reduceBNe, reduceCtorEq, Int.reduceLT, Int.reduceLE, Int.reduceEq, Int.reduceNe, Int.reduceBEq, Int.reduceBNe, Int.reduceAdd, Int.reduceSub, Int.reduceNeg, Int.reduceToNat, Nat.lt_irrefl, Int.lt_irrefl, St.sealAt, and_self, if_false]
      intro φ
      refine vfor [1,3,9,10,11,16,17,18,86,87] [11,17,18,901,902,114,126] [.nilC 17 1 901 43 2, .nilC 18 1 902 43 2, .ren 114 901, .ren 126 902] L.length (fun _ => True) (fun k => ⟨[(1,.p (u8P one)),(3,.p (u8P c)),(9,.p (.ref [natP j, sents (R6.bk L)] 0)),(10,.p (prsP L)),(11,.sl 11),(16,.p (.func 20 [.ref [ints (R6.ofN T)] 0])),(17,.ptr 17 0),(18,.ptr 18 0),(86,.p (natP L.length)),(87,.p (natP k))], [(11,.vec 3 1 []),(17,.cells 27 [.p (natP j), .sl 901]),(18,.cells 27 [.p (natP j), .sl 902]),(901,.vec 43 2 (lof sentP ((R6.bk (R6.mvL T (R6.rotL L c))).take k))),(902,.vec 43 2 (lof sentP ((R6.bk (R6.rotL L c)).take k)))]⟩) (by first | rfl | (simp only [go_sem, ↓reduceIte, Nat.reduceLT, Nat.reduceLeDiff, Nat.reduceEqDiff, Nat.reduceAdd, Nat.reduceSub, Nat.reduceDiv, Nat.reduceMod, Nat.reduceMul, Nat.reduceBEq, Nat.reduceBNe, reduceCtorEq, Int.reduceLT, Int.reduceLE, Int.reduceEq, Int.reduceNe, Int.reduceBEq, Int.reduceBNe, Int.reduceAdd, Int.reduceSub, Int.reduceNeg, Int.reduceToNat, hz0, hz1]; first | done | rfl)) trivial ?_
      intro k hk _
      by_cases hkl2 : k < L.length
      · have hml : (k + c) % L.length < L.length := Nat.mod_lt _ (by omega)
        obtain ⟨r, hr⟩ := get_some hml
        obtain ⟨hr1, hr2⟩ := hok r (List.mem_of_getElem? hr)
        have g1 := R6.rotL_get hkl2 hr
        have g2 := R6.mvL_get (T := T) g1
        have ek : (k : Int) + (c : Int) = ((k + c : Nat) : Int) := by omega
        have ek2 := emod_nat (k + c) L.length
        have m1 := R6.mov_lt hpo h6 hr1
        have m2 := R6.mov_lt hpo h6 hr2
        have hT6 : ∀ x ∈ T, x < 6 := fun x hx => by have := hTlt x hx; omega
        have s1 : (R6.bk (R6.mvL T (R6.rotL L c))).take (k + 1) = (R6.bk (R6.mvL T (R6.rotL L c))).take k ++ [(R6.lst (R6.movM T r.1), R6.lst (R6.movM T r.2))] := R6.take_succ_get (by unfold R6.bk; rw [List.getElem?_map, g2]; rfl)
        have s2 : (R6.bk (R6.rotL L c)).take (k + 1) = (R6.bk (R6.rotL L c)).take k ++ [(R6.lst r.1, R6.lst r.2)] := R6.take_succ_get (by unfold R6.bk; rw [List.getElem?_map, g1]; rfl)
        rw [← hTl] at hr1 hr2
        simp only [go_sem, ↓reduceIte, Nat.reduceLT, Nat.reduceLeDiff, Nat.reduceEqDiff, Nat.reduceAdd, Nat.reduceSub, Nat.reduceDiv, Nat.reduceMod, Nat.reduceMul, Nat.reduceBEq, Nat.reduceBNe, reduceCtorEq, Int.reduceLT, Int.reduceLE, Int.reduceEq, Int.reduceNe, Int.reduceBEq, Int.reduceBNe, Int.reduceAdd, Int.reduceSub, Int.reduceNeg, Int.reduceToNat, hkl2, ek, ek2, lof_getD hr, lof_length, and_self, if_false]
        have q1 : ((R6.bk (R6.mvL T (R6.rotL L c))).take k).length ≤ 4294967295 := by rw [List.length_take]; omega
        have q2 : ((R6.bk (R6.rotL L c)).take k).length ≤ 4294967295 := by rw [List.length_take]; omega
        have q3 := R6.pow64 (show T.length ≤ 6 by omega)
        rw [s1, s2]
        exact ⟨by rw [InK_i64]; omega, by rw [InK_i64]; omega, by omega, hml, fun φ => ⟨by omega, ⟨hr1, by omega, hT6⟩, by omega, by omega, ⟨hr2, by omega, hT6⟩, by omega, q1, fun φ => ⟨by omega, by omega, by omega, by omega, q2, by rw [InK_i64]; omega, rfl⟩⟩⟩
      · obtain rfl : k = L.length := by omega
        have hT6 : ∀ x ∈ T, x < 6 := fun x hx => by have := hTlt x hx; omega
        have t1 : (R6.bk (R6.mvL T (R6.rotL L c))).take L.length = R6.bk (R6.mvL T (R6.rotL L c)) := List.take_of_length_le (by rw [R6.bk_length, hkm]; exact Nat.le_refl _)
        have t2 : (R6.bk (R6.rotL L c)).take L.length = R6.bk (R6.rotL L c) := List.take_of_length_le (by rw [R6.bk_length, hkl]; exact Nat.le_refl _)
        rw [t1, t2]
        have okR := R6.rotL_ok hok c
        have okM := R6.named_ok hpo h6 hok c
        have lM : (R6.mvL T (R6.rotL L c)).length ≤ 8 := by omega
        have lR : (R6.rotL L c).length ≤ 8 := by omega
        have c1 := R6.clo_lt L j a
        have ma := R6.mov_lt hpo h6 l1
        have mc := R6.mov_lt hpo h6 c1
        have n1 := R6.named_clo hpo h6 hok c l1
        have n2 := R6.named_open hpo h6 hok c
        have n3 := R6.named_want hpo h6 hok c
        have A1 := R6.asked_bk h1 h6 hl hok l1
        have M1 := R6.askedM_bk h1 h6 hl hok l1
        have F1 := R6.fol_bk h1 h6 hl hok l1
        have A2 := R6.asked_bk h1 h6 lM okM ma
        have M2 := R6.askedM_bk h1 h6 lM okM ma
        have F2 := R6.fol_bk h1 h6 lM okM ma
        rw [n1] at F2
        have R1 := R6.readL_lst h6 c1
        have C1 := R6.check_bk h1 h6 hl hok
        have C2 := R6.check_bk h1 h6 lM okM
        have C3 := R6.check_bk h1 h6 lR okR
        have B1 := R6.base_bk h1 h6 hl hok
        have B2 := R6.base_bk h1 h6 lM okM
        have B3 := R6.base_bk h1 h6 lR okR
        rw [R6.baL_rot] at B3
        have W1 := R6.all_bk h1 h6 hl hok
        have W2 := R6.all_bk h1 h6 lM okM
        have W3 := R6.all_bk h1 h6 lR okR
        rw [R6.wantU_rot] at W3
        have k2 := bk_ok (R6.mvL T (R6.rotL L c))
        have k3 := bk_ok (R6.rotL L c)
        have k4 := bk_ok (R6.baL L j)
        have z1 := lst_sz a
        have z2 := lst_sz (R6.clo L j a)
        have z3 := lst_sz (R6.movM T a)
        have z4 := lst_sz (R6.movM T (R6.clo L j a))
        have e1 : ((((R6.bk (R6.baL L j)).length : Int) == ((R6.bk (R6.baL (R6.mvL T (R6.rotL L c)) j)).length : Int))) = true := by
          rw [R6.bk_length, R6.bk_length, R6.baL_length, R6.baL_length, n2, beq_self_eq_true]
        have e2 : ((((isort cmpL (R6.wantU L (2 ^ j))).length : Int) == ((isort cmpL (R6.wantU (R6.mvL T (R6.rotL L c)) (2 ^ j))).length : Int))) = true := by
          rw [R6.isort_len, R6.isort_len, n3, beq_self_eq_true]
        have hwl : (isort cmpL (R6.wantU L (2 ^ j))).length ≤ 2 ^ j := by rw [R6.isort_len]; exact R6.wantU_length L (2 ^ j)
        have hwr : ∀ r ∈ isort cmpL (R6.wantU L (2 ^ j)), r.length ≤ 8 := fun r hr => R6.wantU_row (L := L) (k := 2 ^ j) r ((isort_perm cmpL _).mem_iff.1 hr)
        rw [← hTl] at l1 c1
        simp (maxSteps := 4000000) only [go_sem, ↓reduceIte, Nat.reduceLT, Nat.reduceLeDiff, Nat.reduceEqDiff, Nat.reduceAdd, Nat.reduceSub, Nat.reduceDiv, Nat.reduceMod, Nat.reduceMul, Nat.reduceBEq, Nat.reduceBNe, reduceCtorEq, Int.reduceLT, Int.reduceLE, Int.reduceEq, Int.reduceNe, Int.reduceBEq, Int.reduceBNe, Int.reduceAdd, Int.reduceSub, Int.reduceNeg, Int.reduceToNat, hkl2, and_self, if_false, St.sealAt, A1, M1, F1, A2, M2, F2, R1, C1, C2, C3, B1, B2, B3, W1, W2, W3, e1, e2, lof_length, shl_one, full_nat, b1, hTl]
        have hpj := Nat.two_pow_pos j
        rw [hTl] at l1 c1
        have hob : (R6.openL L j).length ≤ 2 ^ j := by
          have := List.Nodup.length_le_of_subset (l₁ := R6.openL L j) (l₂ := List.range (2 ^ j)) R6.openL_nodup (fun x hx => List.mem_range.2 (R6.openL_lt hx))
          simpa using this
        have zb : sz (R6.bk (R6.baL L j)).length := by rw [R6.bk_length, R6.baL_length]; unfold sz; omega
        exact ⟨by rw [InK_u64]; omega, ⟨by omega, by rw [InK_u64]; omega⟩, by rw [InK_u64]; omega, fun φ => ⟨by omega, ⟨k1, z1⟩, fun φ => ⟨⟨l1, h6, hT6⟩, by omega, ⟨k2, z3⟩, ⟨z2, by omega, by omega⟩, ⟨c1, h6, hT6⟩, by omega, z4, k1, k2, k3, k1, k2, k3, ⟨zb, k4⟩,
          ⟨by unfold sz; omega, fun r hr => by have := hwr r hr; unfold sz; omega⟩, ex_le_refl rfl⟩⟩⟩
end Go.V
