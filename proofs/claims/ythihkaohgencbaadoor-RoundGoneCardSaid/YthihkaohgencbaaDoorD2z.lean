/-
  Contracts of the helpers of the laws of chapter 02: whether all that is left can be reached. Conditions: none.
-/
import Derived.Test.YthihkaohgencbaaDoorRndLy
import Derived.Test.YthihkaohgencbaaDoorD2o
set_option linter.unusedVariables false
set_option linter.unusedSimpArgs false
set_option linter.deprecated false
namespace Go.V
open Go.Proofs
set_option maxRecDepth 100000
set_option maxHeartbeats 4000000

def rndR (L : R2.G) (p : Nat → Bool) (s : Nat) : Nat → Nat
  | 0 => s
  | r + 1 => R2.rnd L p (rndR L p s r)
theorem rndR_lt {n : Nat} {L : R2.G} (hv : R2.Val n L) (p : Nat → Bool) {s : Nat} (hs : s < 2 ^ n) : ∀ r, rndR L p s r < 2 ^ n
  | 0 => hs
  | r + 1 => R2.rnd_lt hv p (rndR_lt hv p hs r)
theorem rndR_sub (L : R2.G) (p : Nat → Bool) (s : Nat) : ∀ r, R2.sub s (rndR L p s r) = true
  | 0 => R2.sub_refl s
  | r + 1 => R2.sub_trans (rndR_sub L p s r) (R2.rnd_sub L p _)
theorem rndR_le {L : R2.G} {p S : Nat → Bool} {s : Nat} (hc : R2.Closed L p S) (hs : ∀ v, s.testBit v = true → S v = true) : ∀ r v, (rndR L p s r).testBit v = true → S v = true
  | 0 => hs
  | r + 1 => R2.rnd_le hc (rndR_le hc hs r)
theorem rndR_grow {n : Nat} {L : R2.G} (hv : R2.Val n L) (h6 : n ≤ 6) (p : Nat → Bool) {s : Nat} (hs : s < 2 ^ n) : ∀ r, R2.rnd L p (rndR L p s r) = rndR L p s r ∨ r + (R2.ones s).length ≤ (R2.ones (rndR L p s r)).length
  | 0 => .inr (by rw [rndR]; omega)
  | r + 1 => by
    rcases rndR_grow hv h6 p hs r with h | h
    · left
      rw [rndR, h]; exact h
    · by_cases he : R2.rnd L p (rndR L p s r) = rndR L p s r
      · left; rw [rndR, he]; exact he
      · right
        have hsub := R2.rnd_sub L p (rndR L p s r)
        have hlt := rndR_lt hv p hs r
        have hlt2 := R2.rnd_lt hv p hlt
        obtain ⟨i, h1, h2⟩ : ∃ i, (rndR L p s r).testBit i = false ∧ (R2.rnd L p (rndR L p s r)).testBit i = true := by
          refine Classical.byContradiction fun hn => he (R2.sub_antisymm (R2.sub_iff.2 fun i hi => ?_) hsub)
          cases hb : (rndR L p s r).testBit i with
          | true => rfl
          | false => exact absurd ⟨i, hb, hi⟩ hn
        have h512 : R2.rnd L p (rndR L p s r) < 512 := by have := pow_le6 h6; omega
        have hi9 : i < 9 := by
          rcases Nat.lt_or_ge i 9 with h | h
          · exact h
          · rw [R2.testBit_big h512 h] at h2; cases h2
        have := R2.ones_len_lt hi9 hsub h1 h2
        rw [rndR]; omega
theorem ones_le {n s : Nat} (hn : n ≤ 9) (hs : s < 2 ^ n) : (R2.ones s).length ≤ n := by
  rw [ones_range hs hn]
  have := List.length_filter_le s.testBit (List.range n)
  rwa [List.length_range] at this
theorem rndR_reach {n : Nat} {L : R2.G} (hv : R2.Val n L) (h6 : n ≤ 6) (p : Nat → Bool) {u : Nat} (hu : u < n) : rndR L p (2 ^ u) n = R2.reachM L p (2 ^ u) := by
  have hs : 2 ^ u < 2 ^ n := Nat.pow_lt_pow_right (by decide) hu
  have h1 : 1 ≤ (R2.ones (2 ^ u)).length := by
    have : u ∈ R2.ones (2 ^ u) := R2.mem_ones.2 ⟨by omega, by rw [Nat.testBit_two_pow_self]⟩
    exact List.length_pos_of_mem this
  have hfix : R2.rnd L p (rndR L p (2 ^ u) n) = rndR L p (2 ^ u) n := by
    rcases rndR_grow hv h6 p hs n with h | h
    · exact h
    · have := ones_le (show n ≤ 9 by omega) (rndR_lt hv p hs n)
      omega
  exact R2.reachM_unique hv h6 hs (rndR_sub L p _ n) (R2.rnd_fix hfix) (fun S hc hS => rndR_le hc hS n)
theorem gone_may {n : Nat} {L : R2.G} (ok : MapOK n L) {u : Nat} (hu : u < n) (left : List Nat) : R2.mayB L u left = (List.range L.length).all fun i => !(R2.pOf left i) || (rndR L (R2.pOf left) (2 ^ u) n).testBit (R2.st L i).a := by
  have hs : 2 ^ u < 2 ^ n := Nat.pow_lt_pow_right (by decide) hu
  obtain ⟨c1, _, _, _⟩ := R2.reachM_spec ok.val ok.n6 (R2.pOf left) hs
  rw [← rndR_reach ok.val ok.n6 _ hu] at c1
  unfold R2.mayB
  rw [← rndR_reach ok.val ok.n6 _ hu]
  rw [Bool.eq_iff_iff, List.all_eq_true, List.all_eq_true]
  have key : ∀ i ∈ List.range L.length, (!(R2.pOf left i) || ((rndR L (R2.pOf left) (2 ^ u) n &&& R2.ends (R2.st L i)) != 0)) = (!(R2.pOf left i) || (rndR L (R2.pOf left) (2 ^ u) n).testBit (R2.st L i).a) := fun i hi => by
    cases hp : R2.pOf left i with
    | false => rfl
    | true =>
      have := c1 i (List.mem_range.1 hi) hp
      rw [R2.and_ends, ← this, Bool.or_self]
  constructor
  · intro h i hi; rw [← key i hi]; exact h i hi
  · intro h i hi; rw [key i hi]; exact h i hi

theorem goneL_spec (n : Nat) (L : List R2.E) (u : Nat) (left : List Nat) (hpre : MapOK n L ∧ u < n ∧ left.length = L.length) : Ret Tryd.prog 61 [mapN n L, natP u, ints (ofN left)] (boolP (R2.mayB L u left)) := by
  refine fn_of (T := []) (N := 80) (RO := [3, 9, 11]) (CH := [7]) (KS := [0, 1, 2, 3, 6, 7, 8, 9, 10, 11, 15, 16, 17, 19, 20, 21, 22, 46, 59, 60, 61, 62, 78]) (NS := []) (fun args w => Tryd.call61 args w) Tryd.func61 rfl rfl (by simp) mixed (by kernel_rfl) trivial ?_
  simp only [go_sem]
  obtain ⟨ok, hu, hlen⟩ := hpre
  have h9 := ok.len
  have h6 := ok.n6
  have h64 := pow_le6 h6
  have hs : 2 ^ u < 2 ^ n := Nat.pow_lt_pow_right (by decide) hu
  have hlt9 := rndR_lt ok.val (R2.pOf left) hs
  have hgm := gone_may ok hu left
  have hR : ∀ r, rndR L (R2.pOf left) (2 ^ u) (r + 1) = R2.rndK L (R2.pOf left) (rndR L (R2.pOf left) (2 ^ u) r) L.length := fun r => rfl
  have hp0 := Nat.two_pow_pos u
  simp only [go_sem, shl_one]
  refine ⟨⟨by omega, by rw [InK_u64]; omega⟩, ?_⟩
  refine vfor [2,3,7,15,16] [] [] n (fun _ => True) (fun r => ⟨[(2,.p (ints (ofN left))),(3,.p (.ref [natP n, strN L] 0)),(7,.p (u64P (rndR L (R2.pOf left) (2 ^ u) r))),(15,.p (natP n)),(16,.p (natP r))], []⟩) (by first | rfl | (simp only [go_sem]; first | done | rfl)) trivial ?_
  intro r hr _
  by_cases hrn : r < n
  · have h0 := hR r
    have hs0 := hlt9 r
    generalize rndR L (R2.pOf left) (2 ^ u) r = s at *
    have hk0 : R2.rndK L (R2.pOf left) s 0 = s := rfl
    have hkl := R2.rndK_lt ok.val (R2.pOf left) hs0
    simp only [go_sem, hrn]
    refine vfor [2,3,7,15,16,19,20,21] [] [] L.length (fun _ => True) (fun k => ⟨[(2,.p (ints (ofN left))),(3,.p (.ref [natP n, strN L] 0)),(7,.p (u64P (R2.rndK L (R2.pOf left) s k))),(15,.p (natP n)),(16,.p (natP r)),(19,.p (strN L)),(20,.p (natP L.length)),(21,.p (natP k))], []⟩) (by first | rfl | (simp only [go_sem, hk0]; first | done | rfl)) trivial ?_
    intro k hk _
    by_cases hkn : k < L.length
    · obtain ⟨a, b, hg, hg2, hab, hbn, hb6⟩ := ok.at hkn
      obtain ⟨x, hx⟩ := get_some (show k < left.length by omega)
      have hpx : R2.pOf left k = decide (0 < x) := by unfold R2.pOf R2.lf; rw [List.getD_eq_getElem?_getD, hx]; rfl
      have hsl := hkl k hk
      have hstep : R2.rndK L (R2.pOf left) s (k + 1) = if R2.pOf left k = true then R2.stepR (L.getD k default) (R2.rndK L (R2.pOf left) s k) else R2.rndK L (R2.pOf left) s k := rfl
      rw [hpx, hg2] at hstep
      generalize R2.rndK L (R2.pOf left) s k = w at *
      have hst : R2.stepR ⟨a, b⟩ w = if (w.testBit a || w.testBit b) = true then w ||| R2.ends ⟨a, b⟩ else w := by
        unfold R2.stepR; rw [R2.and_ends]
      by_cases hx0 : 0 < x
      · have hx1 : (0 : Int) < (x : Int) := by omega
        rw [decide_eq_true hx0, if_pos rfl, hst] at hstep
        have q1 := pow_lt6 (show a < 6 by omega)
        have q2 := pow_lt6 hb6
        have q3 := Nat.two_pow_pos a
        have q4 := Nat.two_pow_pos b
        have he : R2.ends ⟨a, b⟩ < 2 ^ n := R2.ends_lt (e := ⟨a, b⟩) (show a < n by omega) hbn
        have e1 : bits .or .u64 ((2 ^ a : Nat) : Int) ((2 ^ b : Nat) : Int) = ((R2.ends ⟨a, b⟩ : Nat) : Int) := u64_or' (show 2 ^ a < 18446744073709551616 by omega) (show 2 ^ b < 18446744073709551616 by omega)
        have e2 := u64_or' (show w < 18446744073709551616 by omega) (show R2.ends ⟨a, b⟩ < 18446744073709551616 by omega)
        cases ha : w.testBit a with
        | true =>
          rw [ha, Bool.true_or, if_pos rfl] at hstep
          simp only [go_sem, hkn, lof_getD hg, lof_getD (ofN_get hx), hx0, hx1, bit_at w a (by omega), bit_at w b (by omega), ha, beq_bit1, shl_one, e1, e2, Int.toNat_natCast]
          rw [hstep]
          (repeat with_reducible refine And.intro (by (repeat' with_reducible refine And.intro ?_ ?_) <;> first | with_reducible assumption | omega | (simp only [InK_i64, InK_u64, InK_u8]; omega) | (unfold sz; omega) | exact True.intro) ?_)
          rfl
        | false =>
          cases hb : w.testBit b with
          | true =>
            rw [ha, hb, Bool.false_or, if_pos rfl] at hstep
            simp only [go_sem, hkn, lof_getD hg, lof_getD (ofN_get hx), hx0, hx1, bit_at w a (by omega), bit_at w b (by omega), ha, hb, beq_bit1, shl_one, e1, e2, Int.toNat_natCast]
            rw [hstep]
            (repeat with_reducible refine And.intro (by (repeat' with_reducible refine And.intro ?_ ?_) <;> first | with_reducible assumption | omega | (simp only [InK_i64, InK_u64, InK_u8]; omega) | (unfold sz; omega) | exact True.intro) ?_)
            rfl
          | false =>
            rw [ha, hb, Bool.false_or, if_neg (by decide)] at hstep
            simp only [go_sem, hkn, lof_getD hg, lof_getD (ofN_get hx), hx0, hx1, bit_at w a (by omega), bit_at w b (by omega), ha, hb, beq_bit1, shl_one, e1, e2, Int.toNat_natCast]
            rw [hstep]
            (repeat with_reducible refine And.intro (by (repeat' with_reducible refine And.intro ?_ ?_) <;> first | with_reducible assumption | omega | (simp only [InK_i64, InK_u64, InK_u8]; omega) | (unfold sz; omega) | exact True.intro) ?_)
            rfl
      · have hx1 : ¬ (0 : Int) < (x : Int) := by omega
        rw [decide_eq_false hx0, if_neg (by decide)] at hstep
        simp only [go_sem, hkn, lof_getD hg, lof_getD (ofN_get hx), hx0, hx1, Int.toNat_natCast]
        rw [hstep]
        (repeat with_reducible refine And.intro (by (repeat' with_reducible refine And.intro ?_ ?_) <;> first | with_reducible assumption | omega | (simp only [InK_i64, InK_u64, InK_u8]; omega) | (unfold sz; omega) | exact True.intro) ?_)
        rfl
    · obtain rfl : k = L.length := by omega
      simp only [go_sem, Nat.lt_irrefl, Int.lt_irrefl]
      rw [h0]
      exact ⟨by rw [InK_i64]; omega, hrn, rfl⟩
  · obtain rfl : r = n := by omega
    have hs0 := hlt9 r
    generalize rndR L (R2.pOf left) (2 ^ u) r = s at *
    simp only [go_sem, Nat.lt_irrefl, Int.lt_irrefl]
    refine vfor [2,3,7,59,60,61] [] [] L.length (fun k => ∀ i, i < k → (!(R2.pOf left i) || s.testBit (R2.st L i).a) = true) (fun k => ⟨[(2,.p (ints (ofN left))),(3,.p (.ref [natP r, strN L] 0)),(7,.p (u64P s)),(59,.p (strN L)),(60,.p (natP L.length)),(61,.p (natP k))], []⟩) (by first | rfl | (simp only [go_sem]; first | done | rfl)) (by intro i hi; omega) ?_
    intro k hk hI
    by_cases hkn : k < L.length
    · obtain ⟨a, b, hg, hg2, hab, hbn, hb6⟩ := ok.at hkn
      obtain ⟨x, hx⟩ := get_some (show k < left.length by omega)
      have hpx : R2.pOf left k = decide (0 < x) := by unfold R2.pOf R2.lf; rw [List.getD_eq_getElem?_getD, hx]; rfl
      by_cases hx0 : 0 < x
      · have hx1 : (0 : Int) < (x : Int) := by omega
        cases ha : s.testBit a with
        | true =>
          simp only [go_sem, hkn, lof_getD hg, lof_getD (ofN_get hx), hx0, hx1, bit_at s a (by omega), ha, beq_bit0, Int.toNat_natCast, Bool.not_true]
          exact ⟨by omega, by omega, by omega, by rw [InK_i64]; omega, fun i hi => by
            by_cases e : i = k
            · subst e; rw [show R2.st L i = ⟨a, b⟩ from hg2, ha, Bool.or_true]
            · exact hI i (by omega), rfl⟩
        | false =>
          have hr : R2.mayB L u left = false := by
            rw [hgm, List.all_eq_false]
            refine ⟨k, List.mem_range.2 hkn, ?_⟩
            rw [hpx, decide_eq_true hx0, show R2.st L k = ⟨a, b⟩ from hg2, ha]; decide
          rw [hr]
          simp only [go_sem, hkn, lof_getD hg, lof_getD (ofN_get hx), hx0, hx1, bit_at s a (by omega), ha, beq_bit0, Int.toNat_natCast, Bool.not_false]
          exact ⟨by omega, by omega, by omega, ex_le_refl rfl⟩
      · have hx1 : ¬ (0 : Int) < (x : Int) := by omega
        simp only [go_sem, hkn, lof_getD hg, lof_getD (ofN_get hx), hx0, hx1, Int.toNat_natCast]
        exact ⟨by omega, by rw [InK_i64]; omega, fun i hi => by
            by_cases e : i = k
            · subst e; rw [hpx, decide_eq_false hx0]; rfl
            · exact hI i (by omega), rfl⟩
    · obtain rfl : k = L.length := by omega
      have hr : R2.mayB L u left = true := by
        rw [hgm, List.all_eq_true]
        exact fun i hi => hI i (List.mem_range.1 hi)
      rw [hr]
      simp only [go_sem, Nat.lt_irrefl, Int.lt_irrefl]
      exact ex_le_refl rfl
end Go.V
