/-
  Contracts of the law's own functions (statements without the reference). Conditions: none.
-/
import Derived.Test.YtlkanfakfmklbaaDoorC06w
import Derived.Test.YtlkanfakfmklbaaDoorP6D
set_option linter.unusedVariables false
set_option linter.unusedSimpArgs false
set_option linter.deprecated false
namespace Go.V
open Go.Proofs
set_option maxRecDepth 10000
set_option maxHeartbeats 4000000

abbrev prP (p : Nat × Nat) : PV := .agg [u64P p.1, u64P p.2]
abbrev prsP (L : R6.Rs) : PV := .list .any 2 (lof prP L)
@[simp] theorem lof_prP_inj {l l' : R6.Rs} : lof prP l = lof prP l' ↔ l = l' := lof_inj (by rintro ⟨a, b⟩ ⟨c, d⟩ h; simp at h; simp; omega)
@[simp] theorem lof_u64P_inj {l l' : List Nat} : lof u64P l = lof u64P l' ↔ l = l' := lof_inj (by intro a b h; simp at h; omega)
def RsOK (L : R6.Rs) : Prop := L.length ≤ 64 ∧ ∀ r ∈ L, r.1 < 64 ∧ r.2 < 64
theorem RsOK.at {L : R6.Rs} (h : RsOK L) {k : Nat} {r : Nat × Nat} (hr : L[k]? = some r) : r.1 < 64 ∧ r.2 < 64 := h.2 r (List.mem_of_getElem? hr)

theorem tz_spec (f : Nat) (hpre : f < 256 ∧ f ≠ 0) : Ret Tryd.prog 29 [u64P f] (natP (R6.tz8 f)) := by
  have e : Lib.ctz 64 f = R6.tz8 f := (show ∀ f < 256, f ≠ 0 → Lib.ctz 64 f = R6.tz8 f by decide +kernel) f hpre.1 hpre.2
  rw [← e]
  exact tz_ret Tryd.tz (fun args w => Tryd.call29 args w) (by kernel_rfl) f (by omega)
noncomputable def tab_tz : Tab := tabOf (fun p : (Nat) => match p with | f => [u64P f]) (fun p : (Nat) => match p with | f => f < 256 ∧ f ≠ 0) (fun p : (Nat) => match p with | f => natP (R6.tz8 f))
theorem tab_tz_eq (f : Nat) : tab_tz [u64P f] = some (f < 256 ∧ f ≠ 0, .p (natP (R6.tz8 f))) := tabOf_eq (enc := fun p : (Nat) => match p with | f => [u64P f]) (pre := fun p : (Nat) => match p with | f => f < 256 ∧ f ≠ 0) (out := fun p : (Nat) => match p with | f => natP (R6.tz8 f)) (by rintro f f' h; simp at h; first | (simp [h]; done) | omega | (simp [h]; omega)) (f)
theorem tab_tz_ok : TabOK Tryd.prog 29 tab_tz := tabOf_ok (by rintro f h; exact tz_spec f h)
noncomputable abbrev ent_tz : FuncId × List Nat × Tab := (29, [], tab_tz)
attribute [go_sem] tab_tz_eq

theorem members_spec (s : Nat) (hpre : s < 256) : Ret Tryd.prog 7 [u64P s] (ints (R6.lst s)) := by
  refine fn_of (T := [ent_tz]) (N := 16) (RO := [13]) (CH := []) (KS := [0, 2, 3, 5]) (NS := [2, 3, 14]) (fun args w => Tryd.call7 args w) Tryd.func7 rfl rfl (by simp) mixed (by kernel_rfl) ⟨tab_tz_ok, trivial⟩ ?_
  simp only [go_sem, ↓reduceIte, Nat.reduceLT, Nat.reduceLeDiff, Nat.reduceEqDiff, Nat.reduceAdd, Nat.reduceSub, Nat.reduceDiv, Nat.reduceMod, Nat.reduceMul, Nat.reduceBEq, Nat.reduceBNe, reduceCtorEq, Int.reduceLT, Int.reduceLE, Int.reduceEq, Int.reduceNe, Int.reduceBEq, Int.reduceBNe, Int.reduceAdd, Int.reduceSub, Int.reduceNeg, Int.reduceToNat]
  refine vwhile [0,3] [3] [.nilS 3 3 1] (fun d : Nat × List Int => d.1 < 256 ∧ d.2.length ≤ 8 ∧ d.2 ++ R6.lst d.1 = R6.lst s) (fun d => d.1) (fun d => ⟨[(0,.p (u64P d.1)),(3,.sl 3)], [(3, .vec 3 1 (lof intP d.2))]⟩) (s, []) (by first | rfl | (simp only [go_sem, ↓reduceIte, Nat.reduceLT, Nat.reduceLeDiff, Nat.reduceEqDiff, Nat.reduceAdd, Nat.reduceSub, Nat.reduceDiv, Nat.reduceMod, Nat.reduceMul, Nat.reduceBEq, Nat.reduceBNe, reduceCtorEq, Int.reduceLT, Int.reduceLE, Int.reduceEq, Int.reduceNe, Int.reduceBEq, Int.reduceBNe, Int.reduceAdd, Int.reduceSub, Int.reduceNeg, Int.reduceToNat]; first | done | rfl)) ⟨hpre, by simp, rfl⟩ ?_
  rintro ⟨g, o⟩ ⟨hg, ho, hI⟩
  simp only at hg ho hI
  by_cases h0 : g = 0
  · subst h0
    simp only [go_sem, ↓reduceIte, Nat.reduceLT, Nat.reduceLeDiff, Nat.reduceEqDiff, Nat.reduceAdd, Nat.reduceSub, Nat.reduceDiv, Nat.reduceMod, Nat.reduceMul, Nat.reduceBEq, Nat.reduceBNe, reduceCtorEq, Int.reduceLT, Int.reduceLE, Int.reduceEq, Int.reduceNe, Int.reduceBEq, Int.reduceBNe, Int.reduceAdd, Int.reduceSub, Int.reduceNeg, Int.reduceToNat]
    exact ex_le_refl (by rw [← hI]; simp [R6.lst])
  · have hs := R6.lst_step g hg h0
    have hlen : o.length + 1 ≤ 8 := by
      have h1 := congrArg List.length hI
      have h2 := R6.lst_length s
      rw [hs.1] at h1; simp at h1; omega
    have e : ((g : Int) - 1) = ((g - 1 : Nat) : Int) := by omega
    simp only [go_sem, ↓reduceIte, Nat.reduceLT, Nat.reduceLeDiff, Nat.reduceEqDiff, Nat.reduceAdd, Nat.reduceSub, Nat.reduceDiv, Nat.reduceMod, Nat.reduceMul, Nat.reduceBEq, Nat.reduceBNe, reduceCtorEq, Int.reduceLT, Int.reduceLE, Int.reduceEq, Int.reduceNe, Int.reduceBEq, Int.reduceBNe, Int.reduceAdd, Int.reduceSub, Int.reduceNeg, Int.reduceToNat, show ((g : Int) != 0) = true by simp [h0], hg, h0, e, bits_and64 (show g < 18446744073709551616 by omega) (show g - 1 < 18446744073709551616 by omega)]
    refine ⟨h0, by omega, by rw [InK_u64]; omega, (g &&& (g - 1), o ++ [(R6.tz8 g : Int)]), hs.2, ⟨by omega, by simp; omega, ?_⟩, rfl⟩
    rw [← hI, hs.1]; simp
noncomputable def tab_members : Tab := tabOf (fun p : (Nat) => match p with | s => [u64P s]) (fun p : (Nat) => match p with | s => s < 256) (fun p : (Nat) => match p with | s => ints (R6.lst s))
theorem tab_members_eq (s : Nat) : tab_members [u64P s] = some (s < 256, .p (ints (R6.lst s))) := tabOf_eq (enc := fun p : (Nat) => match p with | s => [u64P s]) (pre := fun p : (Nat) => match p with | s => s < 256) (out := fun p : (Nat) => match p with | s => ints (R6.lst s)) (by rintro s s' h; simp at h; first | (simp [h]; done) | omega | (simp [h]; omega)) (s)
theorem tab_members_ok : TabOK Tryd.prog 7 tab_members := tabOf_ok (by rintro s h; exact members_spec s h)
noncomputable abbrev ent_members : FuncId × List Nat × Tab := (7, [], tab_members)
attribute [go_sem] tab_members_eq

abbrev talkP (f s : Nat) (A : List Nat) : PV := .agg (u8P f :: u8P s :: lof u8P A)
def TalkOK (f s : Nat) (A : List Nat) : Prop := f < 256 ∧ s < 256 ∧ A.length = 16 ∧ ∀ x ∈ A, x < 256
theorem u8s_one (A : List Nat) : (List.map AV.p (lof u8P A)).all AV.one = true := by
  rw [List.all_eq_true]
  intro x hx
  simp only [lof, List.map_map, List.mem_map, Function.comp] at hx
  obtain ⟨a, _, rfl⟩ := hx
  rfl
theorem u8s_norm (A : List Nat) : List.map (norm0 1) (lof u8P A) = lof u8P A := by
  simp only [lof, List.map_map]
  apply List.map_congr_left
  intro a _; rfl
theorem u8s_take {A : List Nat} (h : A.length = 16) : List.take 16 (lof u8P A) = lof u8P A := List.take_of_length_le (by rw [lof_length]; omega)
theorem emod_nat (a b : Nat) : (a : Int) % (b : Int) = ((a % b : Nat) : Int) := (Int.natCast_emod a b).symm

theorem readLL_spec (l : List Int) (n : Int) (hpre : sz l.length ∧ 1 ≤ n ∧ n ≤ 6) : Ret Tryd.prog 13 [ints l, intP n] (.tuple [u64P (R6.readL n l).1, boolP (R6.readL n l).2]) := by
  refine fn_of (T := []) (N := 31) (RO := []) (CH := []) (KS := [0, 1, 4, 5, 6, 7, 9, 10, 11, 12, 13, 23]) (NS := []) (fun args w => Tryd.call13 args w) Tryd.func13 rfl rfl (by simp) mixed (by kernel_rfl) trivial ?_
  simp only [go_sem, ↓reduceIte, Nat.reduceLT, Nat.reduceLeDiff, Nat.reduceEqDiff, Nat.reduceAdd, Nat.reduceSub, Nat.reduceDiv, Nat.reduceMod, Nat.reduceMul, Nat.reduceBEq, Nat.reduceBNe, reduceCtorEq, Int.reduceLT, Int.reduceLE, Int.reduceEq, Int.reduceNe, Int.reduceBEq, Int.reduceBNe, Int.reduceAdd, Int.reduceSub, Int.reduceNeg, Int.reduceToNat]
  refine vwhile [1,6,7,10,11,12] [] [] (fun d : Nat × Nat × Int => d.1 ≤ l.length ∧ d.2.1 < 2 ^ n.toNat ∧ -1 ≤ d.2.2 ∧ d.2.2 < n ∧ R6.readErr n l (-1) = R6.readErr n (l.drop d.1) d.2.2 ∧ R6.maskOf l = (l.drop d.1).foldl (fun o x => o ||| 2 ^ x.toNat) d.2.1)
    (fun d => l.length - d.1) (fun d => ⟨[(1,.p (intP n)),(6,.p (u64P d.2.1)),(7,.p (intP d.2.2)),(10,.p (ints l)),(11,.p (natP l.length)),(12,.p (natP d.1))], []⟩) (0, 0, -1) (by first | rfl | (simp only [go_sem, ↓reduceIte, Nat.reduceLT, Nat.reduceLeDiff, Nat.reduceEqDiff, Nat.reduceAdd, Nat.reduceSub, Nat.reduceDiv, Nat.reduceMod, Nat.reduceMul, Nat.reduceBEq, Nat.reduceBNe, reduceCtorEq, Int.reduceLT, Int.reduceLE, Int.reduceEq, Int.reduceNe, Int.reduceBEq, Int.reduceBNe, Int.reduceAdd, Int.reduceSub, Int.reduceNeg, Int.reduceToNat]; first | done | rfl)) ⟨by simp, Nat.two_pow_pos _, by simp, by simp; omega, rfl, rfl⟩ ?_
  rintro ⟨k, o, la⟩ ⟨hk, ho, hl1, hl2, hE, hM⟩
  simp only at hk ho hl1 hl2 hE hM
  have h64 := R6.pow_le64 hpre.2.2
  by_cases hlt : k < l.length
  · obtain ⟨x, hx⟩ := get_some hlt
    have hd : l.drop k = x :: l.drop (k + 1) := by rw [List.drop_eq_getElem_cons hlt]; simp [List.getElem?_eq_getElem hlt] at hx; rw [hx]
    rw [hd] at hE hM
    rw [R6.readErr_cons] at hE
    have hsz := hpre.1
    by_cases h3 : x ≤ la
    · have he : R6.readErr n l (-1) ≠ 0 := by
        rw [hE, if_pos h3]
        split <;> decide
      simp only [go_sem, ↓reduceIte, Nat.reduceLT, Nat.reduceLeDiff, Nat.reduceEqDiff, Nat.reduceAdd, Nat.reduceSub, Nat.reduceDiv, Nat.reduceMod, Nat.reduceMul, Nat.reduceBEq, Nat.reduceBNe, reduceCtorEq, Int.reduceLT, Int.reduceLE, Int.reduceEq, Int.reduceNe, Int.reduceBEq, Int.reduceBNe, Int.reduceAdd, Int.reduceSub, Int.reduceNeg, Int.reduceToNat, hlt, lof_getD hx, h3]
      exact ex_le_refl (by simp [R6.readL, R6.listed_eq, he])
    · by_cases h2 : n ≤ x
      · have he : R6.readErr n l (-1) ≠ 0 := by rw [hE, if_pos (by omega)]; decide
        simp only [go_sem, ↓reduceIte, Nat.reduceLT, Nat.reduceLeDiff, Nat.reduceEqDiff, Nat.reduceAdd, Nat.reduceSub, Nat.reduceDiv, Nat.reduceMod, Nat.reduceMul, Nat.reduceBEq, Nat.reduceBNe, reduceCtorEq, Int.reduceLT, Int.reduceLE, Int.reduceEq, Int.reduceNe, Int.reduceBEq, Int.reduceBNe, Int.reduceAdd, Int.reduceSub, Int.reduceNeg, Int.reduceToNat, hlt, lof_getD hx, h3, h2]
        exact ex_le_refl (by simp [R6.readL, R6.listed_eq, he])
      · rw [if_neg (by omega), if_neg h3] at hE
        obtain ⟨j, rfl⟩ : ∃ j : Nat, x = j := ⟨x.toNat, by omega⟩
        have hj : 2 ^ j < 2 ^ n.toNat := Nat.pow_lt_pow_right (by omega) (by omega)
        have hp := Nat.two_pow_pos j
        simp only [go_sem, ↓reduceIte, Nat.reduceLT, Nat.reduceLeDiff, Nat.reduceEqDiff, Nat.reduceAdd, Nat.reduceSub, Nat.reduceDiv, Nat.reduceMod, Nat.reduceMul, Nat.reduceBEq, Nat.reduceBNe, reduceCtorEq, Int.reduceLT, Int.reduceLE, Int.reduceEq, Int.reduceNe, Int.reduceBEq, Int.reduceBNe, Int.reduceAdd, Int.reduceSub, Int.reduceNeg, Int.reduceToNat, hlt, lof_getD hx, h2, h3, shl_one, bits_or64 (show o < 18446744073709551616 by omega) (show 2 ^ j < 18446744073709551616 by omega)]
        refine ⟨⟨by omega, by rw [InK_u64]; omega⟩, by rw [InK_i64]; omega, (k + 1, o ||| 2 ^ j, (j : Int)), by simp only; omega, ⟨by simp only; omega, Nat.or_lt_two_pow ho hj, by simp only; omega, by simp only; omega, hE, ?_⟩, rfl⟩
        rw [hM]; rfl
  · simp only [go_sem, ↓reduceIte, Nat.reduceLT, Nat.reduceLeDiff, Nat.reduceEqDiff, Nat.reduceAdd, Nat.reduceSub, Nat.reduceDiv, Nat.reduceMod, Nat.reduceMul, Nat.reduceBEq, Nat.reduceBNe, reduceCtorEq, Int.reduceLT, Int.reduceLE, Int.reduceEq, Int.reduceNe, Int.reduceBEq, Int.reduceBNe, Int.reduceAdd, Int.reduceSub, Int.reduceNeg, Int.reduceToNat, hlt]
    have hd : l.drop k = [] := List.drop_of_length_le (by omega)
    rw [hd] at hE hM
    exact ex_le_refl (by simp [R6.readL, R6.listed_eq, hE, R6.readErr, hM])
noncomputable def tab_readLL : Tab := tabOf (fun p : (List Int) × (Int) => match p with | (l, n) => [ints l, intP n]) (fun p : (List Int) × (Int) => match p with | (l, n) => sz l.length ∧ 1 ≤ n ∧ n ≤ 6) (fun p : (List Int) × (Int) => match p with | (l, n) => .tuple [u64P (R6.readL n l).1, boolP (R6.readL n l).2])
theorem tab_readLL_eq (l : List Int) (n : Int) : tab_readLL [ints l, intP n] = some (sz l.length ∧ 1 ≤ n ∧ n ≤ 6, .p (.tuple [u64P (R6.readL n l).1, boolP (R6.readL n l).2])) := tabOf_eq (enc := fun p : (List Int) × (Int) => match p with | (l, n) => [ints l, intP n]) (pre := fun p : (List Int) × (Int) => match p with | (l, n) => sz l.length ∧ 1 ≤ n ∧ n ≤ 6) (out := fun p : (List Int) × (Int) => match p with | (l, n) => .tuple [u64P (R6.readL n l).1, boolP (R6.readL n l).2]) (by rintro ⟨l, n⟩ ⟨l', n'⟩ h; simp at h; first | (simp [h]; done) | omega | (simp [h]; omega)) (l, n)
theorem tab_readLL_ok : TabOK Tryd.prog 13 tab_readLL := tabOf_ok (by rintro ⟨l, n⟩ h; exact readLL_spec l n h)
noncomputable abbrev ent_readLL : FuncId × List Nat × Tab := (13, [1], tab_readLL)
attribute [go_sem] tab_readLL_eq

theorem made_spec (f : Nat) (s : Nat) (A : List Nat) (nfi : Int) (nmi : Int) (hpre : TalkOK f s A ∧ 1 ≤ nfi ∧ nfi ≤ 6 ∧ 0 ≤ nmi ∧ nmi ≤ 8) : Ret Tryd.prog 5 [talkP f s A, intP nfi, intP nmi] (.tuple [bookP (1 + f % nfi.toNat : Nat) (R6.bk (R6.madeL (2 ^ (1 + f % nfi.toNat) - 1) A (s % (nmi.toNat + 1)))), prsP (R6.madeL (2 ^ (1 + f % nfi.toNat) - 1) A (s % (nmi.toNat + 1)))]) := by
  refine fn_of (T := [ent_members, ent_sentence]) (N := 67) (RO := [3, 50, 61]) (CH := [12, 52, 53, 62, 63, 2000012]) (KS := [0, 1, 2, 3, 6, 7, 8, 9, 10, 11, 12, 29, 30, 31]) (NS := [6, 7, 8, 10, 51, 62, 900]) (fun args w => Tryd.call5 args w) Tryd.func5 rfl rfl (by simp) mixed (by kernel_rfl) ⟨tab_members_ok, tab_sentence_ok, trivial⟩ ?_
  simp only [go_sem, ↓reduceIte, Nat.reduceLT, Nat.reduceLeDiff, Nat.reduceEqDiff, Nat.reduceAdd, Nat.reduceSub, Nat.reduceDiv, Nat.reduceMod, Nat.reduceMul, Nat.reduceBEq, Nat.reduceBNe, reduceCtorEq, Int.reduceLT, Int.reduceLE, Int.reduceEq, Int.reduceNe, Int.reduceBEq, Int.reduceBNe, Int.reduceAdd, Int.reduceSub, Int.reduceNeg, Int.reduceToNat]
  obtain ⟨⟨hf, hs, hA, hA2⟩, hn1, hn6, hm0, hm⟩ := hpre
  obtain ⟨nf, rfl⟩ : ∃ k : Nat, nfi = k := ⟨nfi.toNat, by omega⟩
  obtain ⟨nm, rfl⟩ : ∃ k : Nat, nmi = k := ⟨nmi.toNat, by omega⟩
  simp only [Int.toNat_natCast]
  have e1 := emod_nat f nf
  have e3 := emod_nat s (nm + 1)
  have hr1 := Nat.mod_lt f (show nf > 0 by omega)
  have hr2 := Nat.mod_lt s (show nm + 1 > 0 by omega)
  have e2 : (1 : Int) + ((f % nf : Nat) : Int) = ((1 + f % nf : Nat) : Int) := by omega
  have e4 : ((nm : Int) + 1) = ((nm + 1 : Nat) : Int) := by omega
  simp only [go_sem, ↓reduceIte, Nat.reduceLT, Nat.reduceLeDiff, Nat.reduceEqDiff, Nat.reduceAdd, Nat.reduceSub, Nat.reduceDiv, Nat.reduceMod, Nat.reduceMul, Nat.reduceBEq, Nat.reduceBNe, reduceCtorEq, Int.reduceLT, Int.reduceLE, Int.reduceEq, Int.reduceNe, Int.reduceBEq, Int.reduceBNe, Int.reduceAdd, Int.reduceSub, Int.reduceNeg, Int.reduceToNat, u8s_one, lof_length, e1, e2, e3, e4, shl_one, full_nat]
  generalize hn : 1 + f % nf = n at *
  have h64 := R6.pow64 (show n ≤ 6 by omega)
  have hp := Nat.two_pow_pos n
  refine ⟨by omega, by rw [InK_i64]; omega, by omega, by rw [InK_i64]; omega, ⟨by omega, by rw [InK_u64]; omega⟩, by rw [InK_u64]; omega, by omega, by rw [InK_i64]; omega, by rw [InK_i64]; omega, by omega, ?_⟩
  generalize hm2 : s % (nm + 1) = m at *
  refine vfor [3,6,8,9,10,29,30] [6,8,10,900,62] [.nilS 10 38 2, .nilC 8 1 900 43 2, .ren 62 900] m (fun k => True) (fun k => ⟨[(3,.p (.ref (u8P f :: u8P s :: lof u8P A) 0)), (6,.ptr 6 0),(8,.ptr 8 0),(9,.p (u64P (2 ^ n - 1))),(10,.sl 10),(29,.p (natP m)),(30,.p (natP k))],
    [(6,.cells 27 [.p (intP 0), .p (.val (.slice none 0 0))]), (8,.cells 27 [.p (natP n), .sl 900]), (10,.vec 38 2 (lof prP (R6.madeL (2 ^ n - 1) A k))), (900,.vec 43 2 (lof sentP (R6.bk (R6.madeL (2 ^ n - 1) A k))))]⟩) (by first | rfl | (simp only [go_sem, ↓reduceIte, Nat.reduceLT, Nat.reduceLeDiff, Nat.reduceEqDiff, Nat.reduceAdd, Nat.reduceSub, Nat.reduceDiv, Nat.reduceMod, Nat.reduceMul, Nat.reduceBEq, Nat.reduceBNe, reduceCtorEq, Int.reduceLT, Int.reduceLE, Int.reduceEq, Int.reduceNe, Int.reduceBEq, Int.reduceBNe, Int.reduceAdd, Int.reduceSub, Int.reduceNeg, Int.reduceToNat, R6.madeL_zero]; first | done | rfl)) trivial ?_
  intro k hk _
  by_cases hlt : k < m
  · obtain ⟨a, ha⟩ := get_some (show k < A.length by omega)
    obtain ⟨b, hb⟩ := get_some (show 8 + k < A.length by omega)
    have ha2 := hA2 a (List.mem_of_getElem? ha)
    have hb2 := hA2 b (List.mem_of_getElem? hb)
    have x1 : (u8P f :: u8P s :: lof u8P A).getD (2 + k * 1) default = u8P a := by
      rw [show 2 + k * 1 = k + 1 + 1 by omega, List.getD_cons_succ, List.getD_cons_succ]; exact lof_getD ha
    have x2 : (u8P f :: u8P s :: lof u8P A).getD (10 + k * 1) default = u8P b := by
      rw [show 10 + k * 1 = (8 + k) + 1 + 1 by omega, List.getD_cons_succ, List.getD_cons_succ]; exact lof_getD hb
    have b1 := bits_and64 (show a < 18446744073709551616 by omega) (show 2 ^ n - 1 < 18446744073709551616 by omega)
    have b2 := bits_and64 (show b < 18446744073709551616 by omega) (show 2 ^ n - 1 < 18446744073709551616 by omega)
    have hms := R6.madeL_succ (2 ^ n - 1) A k
    have hml := R6.madeL_length (2 ^ n - 1) A k
    have hbl := R6.bk_length (R6.madeL (2 ^ n - 1) A k)
    rw [show A.getD k 0 = a by simp [ha], show A.getD (8 + k) 0 = b by simp [hb]] at hms
    have ha3 : a &&& (2 ^ n - 1) ≤ 2 ^ n - 1 := Nat.and_le_right
    have hb3 : b &&& (2 ^ n - 1) ≤ 2 ^ n - 1 := Nat.and_le_right
    simp only [go_sem, ↓reduceIte, Nat.reduceLT, Nat.reduceLeDiff, Nat.reduceEqDiff, Nat.reduceAdd, Nat.reduceSub, Nat.reduceDiv, Nat.reduceMod, Nat.reduceMul, Nat.reduceBEq, Nat.reduceBNe, reduceCtorEq, Int.reduceLT, Int.reduceLE, Int.reduceEq, Int.reduceNe, Int.reduceBEq, Int.reduceBNe, Int.reduceAdd, Int.reduceSub, Int.reduceNeg, Int.reduceToNat, hlt, x1, x2, b1, b2]
    rw [hms, R6.bk_append, ← lof_append (f := prP)]
    exact ⟨by omega, by omega, by rw [InK_u64]; omega, by omega, by omega, by rw [InK_u64]; omega, by omega, by omega, by omega, by omega, by omega, by omega, by rw [InK_i64]; omega, rfl⟩
  · simp only [go_sem, ↓reduceIte, Nat.reduceLT, Nat.reduceLeDiff, Nat.reduceEqDiff, Nat.reduceAdd, Nat.reduceSub, Nat.reduceDiv, Nat.reduceMod, Nat.reduceMul, Nat.reduceBEq, Nat.reduceBNe, reduceCtorEq, Int.reduceLT, Int.reduceLE, Int.reduceEq, Int.reduceNe, Int.reduceBEq, Int.reduceBNe, Int.reduceAdd, Int.reduceSub, Int.reduceNeg, Int.reduceToNat, hlt]
    obtain rfl : k = m := by omega
    exact ex_le_refl rfl
noncomputable def tab_made : Tab := tabOf (fun p : (Nat) × (Nat) × (List Nat) × (Int) × (Int) => match p with | (f, s, A, nfi, nmi) => [talkP f s A, intP nfi, intP nmi]) (fun p : (Nat) × (Nat) × (List Nat) × (Int) × (Int) => match p with | (f, s, A, nfi, nmi) => TalkOK f s A ∧ 1 ≤ nfi ∧ nfi ≤ 6 ∧ 0 ≤ nmi ∧ nmi ≤ 8) (fun p : (Nat) × (Nat) × (List Nat) × (Int) × (Int) => match p with | (f, s, A, nfi, nmi) => .tuple [bookP (1 + f % nfi.toNat : Nat) (R6.bk (R6.madeL (2 ^ (1 + f % nfi.toNat) - 1) A (s % (nmi.toNat + 1)))), prsP (R6.madeL (2 ^ (1 + f % nfi.toNat) - 1) A (s % (nmi.toNat + 1)))])
theorem tab_made_eq (f : Nat) (s : Nat) (A : List Nat) (nfi : Int) (nmi : Int) : tab_made [talkP f s A, intP nfi, intP nmi] = some (TalkOK f s A ∧ 1 ≤ nfi ∧ nfi ≤ 6 ∧ 0 ≤ nmi ∧ nmi ≤ 8, .p (.tuple [bookP (1 + f % nfi.toNat : Nat) (R6.bk (R6.madeL (2 ^ (1 + f % nfi.toNat) - 1) A (s % (nmi.toNat + 1)))), prsP (R6.madeL (2 ^ (1 + f % nfi.toNat) - 1) A (s % (nmi.toNat + 1)))])) := tabOf_eq (enc := fun p : (Nat) × (Nat) × (List Nat) × (Int) × (Int) => match p with | (f, s, A, nfi, nmi) => [talkP f s A, intP nfi, intP nmi]) (pre := fun p : (Nat) × (Nat) × (List Nat) × (Int) × (Int) => match p with | (f, s, A, nfi, nmi) => TalkOK f s A ∧ 1 ≤ nfi ∧ nfi ≤ 6 ∧ 0 ≤ nmi ∧ nmi ≤ 8) (out := fun p : (Nat) × (Nat) × (List Nat) × (Int) × (Int) => match p with | (f, s, A, nfi, nmi) => .tuple [bookP (1 + f % nfi.toNat : Nat) (R6.bk (R6.madeL (2 ^ (1 + f % nfi.toNat) - 1) A (s % (nmi.toNat + 1)))), prsP (R6.madeL (2 ^ (1 + f % nfi.toNat) - 1) A (s % (nmi.toNat + 1)))]) (by rintro ⟨f, s, A, nfi, nmi⟩ ⟨f', s', A', nfi', nmi'⟩ h; simp at h; first | (simp [h]; done) | omega | (simp [h]; omega)) (f, s, A, nfi, nmi)
theorem tab_made_ok : TabOK Tryd.prog 5 tab_made := tabOf_ok (by rintro ⟨f, s, A, nfi, nmi⟩ h; exact made_spec f s A nfi nmi h)
noncomputable abbrev ent_made : FuncId × List Nat × Tab := (5, [], tab_made)
attribute [go_sem] tab_made_eq
theorem lst_sz (m : Nat) : sz (R6.lst m).length := by have := R6.lst_length m; unfold sz; omega
theorem bk_ok (L : R6.Rs) : BkOK (R6.bk L) := by
  intro s hs
  obtain ⟨r, _, rfl⟩ := List.mem_map.1 hs
  exact ⟨lst_sz _, lst_sz _⟩
end Go.V
