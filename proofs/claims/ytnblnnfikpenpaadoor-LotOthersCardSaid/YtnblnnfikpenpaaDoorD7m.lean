/-
  LotOthers: what so many loads leave, and what the others leave. Conditions: none.
-/
import Derived.Test.YtnblnnfikpenpaaDoorC7e
import Derived.Test.YtnblnnfikpenpaaDoorC7c
import Derived.Test.YtnblnnfikpenpaaDoorP7r
set_option linter.unusedVariables false
set_option linter.unusedSimpArgs false
set_option linter.deprecated false
namespace Go.V
open Go.Proofs
set_option maxRecDepth 100000
set_option maxHeartbeats 4000000

theorem others1_spec (n : Nat) (k : Nat) (hpre : k < 256) : Ret Tryd.prog 43 [natP n, .ref [u8P k] 0] (natP (2 + k % 8)) := by
  refine fn_of (T := []) (N := 8) (RO := []) (CH := []) (KS := [1, 3]) (NS := []) (fun args w => Tryd.call43 args w) Tryd.func43 rfl rfl (by simp) mixed (by kernel_rfl) trivial ?_
  simp only [go_sem]
  exact ⟨by rw [InK_i64]; omega, by rw [InK_i64]; omega, ex_le_refl (congrArg (fun x : Int => intP x) (by omega))⟩
noncomputable def tab_others1 : Tab := tabOf (fun p : (Nat) × (Nat) => match p with | (n, k) => [natP n, .ref [u8P k] 0]) (fun p : (Nat) × (Nat) => match p with | (n, k) => k < 256) (fun p : (Nat) × (Nat) => match p with | (n, k) => natP (2 + k % 8))
theorem tab_others1_eq (n : Nat) (k : Nat) : tab_others1 [natP n, .ref [u8P k] 0] = some (k < 256, .p (natP (2 + k % 8))) := tabOf_eq (enc := fun p : (Nat) × (Nat) => match p with | (n, k) => [natP n, .ref [u8P k] 0]) (pre := fun p : (Nat) × (Nat) => match p with | (n, k) => k < 256) (out := fun p : (Nat) × (Nat) => match p with | (n, k) => natP (2 + k % 8)) (by rintro ⟨n, k⟩ ⟨n', k'⟩ h; simp at h; first | (simp [h]; done) | omega | (simp [h]; omega)) (n, k)
theorem tab_others1_ok : TabOK Tryd.prog 43 tab_others1 := tabOf_ok (by rintro ⟨n, k⟩ h; exact others1_spec n k h)
noncomputable abbrev ent_others1 : FuncId × List Nat × Tab := (43, [], tab_others1)
attribute [go_sem] tab_others1_eq
theorem mentL_p (m : Nat) : ∀ l : List PV, AV.mentL m (l.map .p) = false
  | [] => by simp [AV.mentL]
  | x :: l => by simp [AV.mentL, AV.ment, mentL_p m l]
theorem mentL_blC (m : Nat) (f : Nat → Bool) : AV.mentL m (blC f) = false := mentL_p m _
def lastW (L : List Int) (c : Nat) : Int := if c = 0 then 0 else R7.wt L (R7.ones (c - 1))
theorem isS_zero (n : Nat) (L : List Int) (k : Nat) : R7.isS n L k 0 = fun _ => false := rfl
theorem LotOthers_spec (x : Nat × (List Nat)) (g : Nat) (f : Nat) (hpre : HeapOK x ∧ g < 256 ∧ f < 256) : Ret Tryd.prog 8 [heapP x, u8P g, u8P f] (boolP true) := by
  refine fn_of (T := [ent_works, ent_members7, ent_leaves7, ent_list7, ent_same7]) (N := 168) (RO := [3, 4, 73, 88, 161, 6000079]) (CH := []) (KS := [0, 1, 2, 3, 4, 6, 7, 8, 9, 10, 11, 12, 13, 14, 15, 16, 17, 18, 19, 20, 21, 22, 23, 24, 26, 28, 44, 45, 46, 57, 64, 65, 66, 70, 85]) (NS := [11, 16, 17, 74, 89]) (fun args w => Tryd.call8 args w) Tryd.func8 rfl rfl (by simp) mixed (by kernel_rfl) ⟨tab_works_ok, tab_members7_ok, tab_leaves7_ok, tab_list7_ok, tab_same7_ok, trivial⟩ ?_
  simp only [go_sem]
  obtain ⟨hok, hg, hf⟩ := hpre
  have hl := hok.len
  have hr := Nat.mod_lt x.1 (show 6 > 0 by omega)
  obtain ⟨n, hn⟩ : ∃ n, 1 + x.1 % 6 = n := ⟨_, rfl⟩
  have h1 : 1 ≤ n := by omega
  have h6 : n ≤ 6 := by omega
  have ok := made_ok (W := x.2) (m := 2 + g % 8) h1 h6 (by omega) hl
  have hLl := R7.madeL_length (W := x.2) (m := 2 + g % 8) (by omega)
  have hmade := made_spec x 6 43 [.ref [u8P g] 0] (2 + g % 8) hok (by omega) (by omega) (by omega) (by rw [hn]; exact others1_spec n g hg)
  rw [hn, show min (2 + g % 8) 12 = 2 + g % 8 by omega] at hmade
  obtain ⟨L, hL⟩ : ∃ L, R7.madeL x.2 (2 + g % 8) = L := ⟨_, rfl⟩
  rw [hL] at ok hmade hLl
  have h12 := ok.len
  have hp := R7.pow12 h12
  have hpos := Nat.two_pow_pos L.length
  have hL2 : 2 ≤ L.length := by omega
  obtain ⟨k, hk⟩ : ∃ k, 1 + f % (L.length - 1) = k := ⟨_, rfl⟩
  have hfm := Nat.mod_lt f (show L.length - 1 > 0 by omega)
  have hzL : sz L.length := by unfold sz; omega
  have ek : (1 : Int) + (f : Int) % ((L.length : Int) - 1) = (k : Int) := by
    have e1 : (L.length : Int) - 1 = ((L.length - 1 : Nat) : Int) := by omega
    rw [e1, ← Int.natCast_emod]; omega
  have e2 : (1 : Int) * 2 ^ L.length = ((2 ^ L.length : Nat) : Int) := by push_cast; simp
  have hpre0 : L.length ≤ 12 ∧ (∀ x ∈ L, 0 ≤ x ∧ x ≤ 1000) := ⟨h12, fun x hx => ⟨ok.lo x hx, ok.hi x hx⟩⟩
  have hwb : ∀ c, 0 ≤ R7.wt L (R7.ones c) ∧ R7.wt L (R7.ones c) ≤ 12000 := fun c => by
    have := wtI_bound ok (ofN (R7.ones c))
    have h2 := ones_len c
    rw [wtI_ofN, ofN_length] at this
    omega
  simp only [go_sem, u16s_one, u16s_take12 hl]
  (repeat with_reducible refine And.intro (by (repeat' with_reducible refine And.intro ?_ ?_) <;> first | with_reducible assumption | omega | (simp only [InK_i64, InK_u64, InK_u8]; omega) | (unfold sz; omega) | exact True.intro) ?_)
  refine vret_pure hmade rfl (LeL.refl _) (by decide) ?_
  simp only [go_sem, ek, e2]
  rw [← blC_false]
  refine ⟨by rw [InK_i64]; omega, by rw [InK_i64]; omega, by omega, by rw [InK_i64]; omega, ⟨by omega, inK_u64n (by omega)⟩, ?_⟩
  refine vfor [7,8,9,10,11,12,44,45] [11] [] (2 ^ L.length) (fun _ => True) (fun c => ⟨[(7,.p (natP n)),(8,.p (ints L)),(9,.p (natP L.length)),(10,.p (natP k)),(11,.ptr 11 0),(12,.p (intP (lastW L c))),(44,.p (u64P (2 ^ L.length))),(45,.p (u64P c))], [(11,.cells 51 (blC (R7.isS n L k c)))]⟩) (by first | rfl | (simp only [go_sem, isS_zero, lastW]; first | done | rfl)) trivial ?_
  intro c hc _
  by_cases hlt : c < 2 ^ L.length
  · have hw := hwb c
    have hlast : lastW L (c + 1) = R7.wt L (R7.ones c) := by unfold lastW; rw [if_neg (by omega), Nat.add_sub_cancel]
    cases h1b : ((R7.ones c).length == k) with
    | false =>
      have hb1 : ((((R7.ones c).length : Nat) : Int) == (k : Int)) = false := by rw [beq_eq_false_iff_ne]; rw [beq_eq_false_iff_ne] at h1b; omega
      have hset : blC (R7.isS n L k (c + 1)) = blC (R7.isS n L k c) := blC_congr fun r _ => by rw [R7.isS_succ, h1b]; simp
      simp only [go_sem, hlt, hb1, ofN_length]
      rw [hset, hlast]
      exact ⟨hpre0, by rw [InK_u64]; omega, rfl⟩
    | true =>
      have hb1 : ((((R7.ones c).length : Nat) : Int) == (k : Int)) = true := by rw [beq_iff_eq]; rw [beq_iff_eq] at h1b; omega
      obtain ⟨p, hp'⟩ : ∃ p : Nat, R7.wt L (R7.ones c) % (n : Int) = p := ⟨(R7.wt L (R7.ones c) % (n : Int)).toNat, by have := Int.emod_nonneg (R7.wt L (R7.ones c)) (show (n : Int) ≠ 0 by omega); omega⟩
      have hpn : p < n := by have := Int.emod_lt_of_pos (R7.wt L (R7.ones c)) (show (0 : Int) < n by omega); omega
      have h5p : p ≤ 5 := by omega
      have hset : (blC (R7.isS n L k c)).take p ++ [.p (boolP true)] ++ (blC (R7.isS n L k c)).drop (p + 1) = blC (R7.isS n L k (c + 1)) := by
        rw [set_tad (by rw [blC_length]; omega), blC_set]
        refine blC_congr fun r hr => ?_
        rw [R7.isS_succ, h1b, hp', Bool.true_and]
        by_cases e : r = p
        · subst e; simp
        · have : ((p : Int) == (r : Int)) = false := by rw [beq_eq_false_iff_ne]; omega
          simp [e, this]
      simp only [go_sem, hlt, hb1, ofN_length, hp', blC_length, Nat.mul_one, h5p, false_and, hset]
      rw [hlast]
      exact ⟨hpre0, ⟨hw.1, by omega⟩, by omega, by rw [InK_u64]; omega, rfl⟩
  · obtain rfl : c = 2 ^ L.length := by omega
    have hlast : lastW L (2 ^ L.length) = R7.allW L := by unfold lastW R7.allW; rw [if_neg (by omega)]
    rw [hlast]
    simp only [go_sem, Nat.lt_irrefl]
    have haw : 0 ≤ R7.allW L ∧ R7.allW L ≤ 12000 := hwb _
    have hleave := R7.leaves_isS (n := n) (k := k) h12
    have hothers := R7.others (n := n) (k := k) h12 (by omega) (by omega)
    obtain ⟨f1, hf1⟩ : ∃ f1, R7.isS n L k (2 ^ L.length) = f1 := ⟨_, rfl⟩
    obtain ⟨f2, hf2⟩ : ∃ f2 : Nat → Bool, (fun x : Nat => R7.isS n L k (2 ^ L.length) ((R7.allW L - (x : Int)) % (n : Int)).toNat) = f2 := ⟨_, rfl⟩
    rw [hf1] at hleave
    rw [hf2] at hothers
    rw [hf1]
    refine vfor [7,8,9,10,11,12,16,17,64,65] [11,16,17] [.nilS 16 3 1, .nilS 17 3 1] n (fun _ => True) (fun j => ⟨[(7,.p (natP n)),(8,.p (ints L)),(9,.p (natP L.length)),(10,.p (natP k)),(11,.ptr 11 0),(12,.p (intP (R7.allW L))),(16,.sl 16),(17,.sl 17),(64,.p (natP n)),(65,.p (natP j))], [(11,.cells 51 (blC f1)),(16,.vec 3 1 (lof intP (ofN ((List.range j).filter f1)))),(17,.vec 3 1 (lof intP (ofN ((List.range j).filter f2))))]⟩) (by first | rfl | (simp only [go_sem]; first | done | rfl)) trivial ?_
    intro j hj _
    have hl1 : ((List.range j).filter f1).length ≤ j := Nat.le_trans (List.length_filter_le _ _) (by simp)
    have hl2 : ((List.range j).filter f2).length ≤ j := Nat.le_trans (List.length_filter_le _ _) (by simp)
    by_cases hjl : j < n
    · have hj6 : j < 6 := by omega
      have hg1 : (blC f1)[j]? = some (.p (boolP (f1 j))) := blC_get hj6
      obtain ⟨q, hq⟩ : ∃ q : Nat, (R7.allW L - (j : Int)) % (n : Int) = q := ⟨((R7.allW L - (j : Int)) % (n : Int)).toNat, by have := Int.emod_nonneg (R7.allW L - (j : Int)) (show (n : Int) ≠ 0 by omega); omega⟩
      have hqn : q < n := by have := Int.emod_lt_of_pos (R7.allW L - (j : Int)) (show (0 : Int) < n by omega); omega
      have hg2 : (blC f1)[q]? = some (.p (boolP (f1 q))) := blC_get (by omega)
      have hq2 : f2 j = f1 q := by rw [← hf2, ← hf1]; show R7.isS n L k _ _ = _; rw [hq]; rfl
      obtain ⟨htm, htm2⟩ := R7.tmod_fix (R7.allW L - (j : Int)) (show 0 < n by omega)
      have htl := Int.tmod_lt_of_pos (R7.allW L - (j : Int)) (show (0 : Int) < n by omega)
      rw [hq] at htm2
      have e1 : ∀ f : Nat → Bool, ofN ((List.range j ++ [j]).filter f) = ofN ((List.range j).filter f) ++ (if f j = true then [(j : Int)] else []) := fun f => by
        rw [List.filter_append, List.filter_cons]
        cases f j <;> simp [ofN]
      have e2 := e1 f1
      have e3 := e1 f2
      rw [← hq2] at hg2
      obtain ⟨t, ht⟩ : ∃ t, (R7.allW L - (j : Int)).tmod n = t := ⟨_, rfl⟩
      rw [ht] at htm htm2 htl
      cases hv1 : f1 j with
      | true =>
        rw [hv1, if_pos rfl] at e2
        rw [hv1] at hg1
        cases hv2 : f2 j with
        | true =>
          rw [hv2, if_pos rfl] at e3
          rw [hv2] at hg2
          simp only [go_sem, hjl, hg1, hg2, ht, htm2, blC_length, Nat.mul_one, ofN_length, mentL_blC]
          rw [e2, e3]
          exact ⟨hj6, by omega, by rw [InK_i64]; omega, by omega, by rw [InK_i64]; omega, ⟨htm, by omega⟩, by omega, by omega, by rw [InK_i64]; omega, by simp [lof]⟩
        | false =>
          rw [hv2, if_neg (by simp)] at e3
          rw [hv2] at hg2
          simp only [go_sem, hjl, hg1, hg2, ht, htm2, blC_length, Nat.mul_one, ofN_length, mentL_blC]
          rw [e2, e3, List.append_nil]
          exact ⟨hj6, by omega, by rw [InK_i64]; omega, by omega, by rw [InK_i64]; omega, ⟨htm, by omega⟩, by omega, by rw [InK_i64]; omega, by simp [lof]⟩
      | false =>
        rw [hv1, if_neg (by simp)] at e2
        rw [hv1] at hg1
        cases hv2 : f2 j with
        | true =>
          rw [hv2, if_pos rfl] at e3
          rw [hv2] at hg2
          simp only [go_sem, hjl, hg1, hg2, ht, htm2, blC_length, Nat.mul_one, ofN_length, mentL_blC]
          rw [e2, e3, List.append_nil]
          exact ⟨hj6, by rw [InK_i64]; omega, by omega, by rw [InK_i64]; omega, ⟨htm, by omega⟩, by omega, by omega, by rw [InK_i64]; omega, by simp [lof]⟩
        | false =>
          rw [hv2, if_neg (by simp)] at e3
          rw [hv2] at hg2
          simp only [go_sem, hjl, hg1, hg2, ht, htm2, blC_length, Nat.mul_one, ofN_length, mentL_blC]
          rw [e2, e3, List.append_nil, List.append_nil]
          exact ⟨hj6, by rw [InK_i64]; omega, by omega, by rw [InK_i64]; omega, ⟨htm, by omega⟩, by omega, by rw [InK_i64]; omega, rfl⟩
    · obtain rfl : j = n := by omega
      rw [hleave, hothers]
      have hone := R7.all_one h12 (show 0 < j by omega)
      have hb1 : inB (k : Int) 1 (L.length : Int) = true := by simp [inB]; omega
      have hb2 : inB ((L.length : Int) - (k : Int)) 1 (L.length : Int) = true := by simp [inB]; omega
      have hb3 : inB (L.length : Int) 1 (L.length : Int) = true := by simp [inB]; omega
      have hb4 : inB ((L.length : Int) + 1) 1 (L.length : Int) = false := by simp [inB]; omega
      have hb5 : inB 0 1 (L.length : Int) = false := by simp [inB]
      have k1 : leavesM j L (k : Int) = (ofN (R7.leavesL j L k), 0) := by unfold leavesM; rw [if_pos ok.check, if_pos hb1]; rfl
      have k2 : leavesM j L ((L.length : Int) - (k : Int)) = (ofN (R7.leavesL j L (L.length - k)), 0) := by
        unfold leavesM; rw [if_pos ok.check, if_pos hb2, Int.toNat_natCast, show ((L.length : Int) - (k : Int)).toNat = L.length - k by omega]
      have k3 : leavesM j L (L.length : Int) = ([R7.allW L % (j : Int)], 0) := by
        unfold leavesM; rw [if_pos ok.check, if_pos hb3, Int.toNat_natCast, Int.toNat_natCast, hone]
        have := Int.emod_nonneg (R7.allW L) (show (j : Int) ≠ 0 by omega)
        simp [ofN]; omega
      have k4 : leavesM j L ((L.length : Int) + 1) = ([], 2) := by unfold leavesM; rw [if_pos ok.check, if_neg (by simp [hb4])]
      have k5 : leavesM j L 0 = ([], 2) := by unfold leavesM; rw [if_pos ok.check, if_neg (by simp [hb5])]
      have hln : ∀ q, (R7.leavesL j L q).length ≤ 6 := fun q => Nat.le_trans (List.length_filter_le _ _) (by simp; omega)
      have hln1 := hln k
      have hln2 := hln (L.length - k)
      obtain ⟨A1, hA1⟩ : ∃ A1, ofN (R7.leavesL j L k) = A1 := ⟨_, rfl⟩
      obtain ⟨A2, hA2⟩ : ∃ A2, ofN (R7.leavesL j L (L.length - k)) = A2 := ⟨_, rfl⟩
      have hz1 : sz A1.length := by rw [← hA1, ofN_length]; unfold sz; omega
      have hz2 : sz A2.length := by rw [← hA2, ofN_length]; unfold sz; omega
      rw [hA1] at k1
      rw [hA2] at k2
      rw [hA1, hA2]
      have d1 : decide (A1 = A1) = true := by simp
      have d2 : decide (A2 = A2) = true := by simp
      have d3 : decide ([R7.allW L % (j : Int)] = [R7.allW L % (j : Int)]) = true := by simp
      have h7 : tab_list7 [PV.list LM.any 1 [PV.val (Value.int .i64 (R7.allW L % (j : Int)))]] = some (True, .p (ints [R7.allW L % (j : Int)])) := tab_list7_eq [R7.allW L % (j : Int)]
      simp only [go_sem, Nat.lt_irrefl, k1, k2, k3, k4, k5, d1, d2, d3, mentL_blC, h7]
      have hs1 : sz 1 := by unfold sz; omega
      exact ⟨hzL, by rw [InK_i64]; omega, hzL, hzL, by rw [InK_i64]; omega, hzL, hzL, ⟨hz1, hz1⟩, ⟨hz2, hz2⟩, ⟨haw.1, by omega⟩, ⟨hs1, hs1⟩, ex_le_refl rfl⟩
end Go.V
