/-
  LotSome: the fewest loads that weigh whole stones, and rows: all sets are tried. Conditions: none.
-/
import Derived.Test.YtnblnnfikpenpaaDoorD7s
import Derived.Test.YtnblnnfikpenpaaDoorD7e
import Derived.Test.YtnblnnfikpenpaaDoorC7c
import Derived.Test.YtnblnnfikpenpaaDoorP7n
set_option linter.unusedVariables false
set_option linter.unusedSimpArgs false
set_option linter.deprecated false
namespace Go.V
open Go.Proofs
set_option maxRecDepth 100000
set_option maxHeartbeats 4000000

theorem some1_spec (n : Nat) (k : Nat) (hpre : k < 256) : Ret Tryd.prog 58 [natP n, .ref [u8P k] 0] (natP (k % 11)) := by
  refine fn_of (T := []) (N := 7) (RO := []) (CH := []) (KS := [1, 3]) (NS := []) (fun args w => Tryd.call58 args w) Tryd.func58 rfl rfl (by simp) mixed (by kernel_rfl) trivial ?_
  simp only [go_sem, ↓reduceIte, Nat.reduceLT, Nat.reduceLeDiff, Nat.reduceEqDiff, Nat.reduceAdd, Nat.reduceSub, Nat.reduceDiv, Nat.reduceMod, Nat.reduceMul, Nat.reduceBEq, Nat.reduceBNe, reduceCtorEq, Int.reduceLT, Int.reduceLE, Int.reduceEq, Int.reduceNe, Int.reduceBEq, Int.reduceBNe, Int.reduceAdd, Int.reduceSub, Int.reduceNeg, Int.reduceToNat]
  exact ⟨by rw [InK_i64]; omega, ex_le_refl (congrArg (fun x : Int => intP x) (by omega))⟩
noncomputable def tab_some1 : Tab := tabOf (fun p : (Nat) × (Nat) => match p with | (n, k) => [natP n, .ref [u8P k] 0]) (fun p : (Nat) × (Nat) => match p with | (n, k) => k < 256) (fun p : (Nat) × (Nat) => match p with | (n, k) => natP (k % 11))
theorem tab_some1_eq (n : Nat) (k : Nat) : tab_some1 [natP n, .ref [u8P k] 0] = some (k < 256, .p (natP (k % 11))) := tabOf_eq (enc := fun p : (Nat) × (Nat) => match p with | (n, k) => [natP n, .ref [u8P k] 0]) (pre := fun p : (Nat) × (Nat) => match p with | (n, k) => k < 256) (out := fun p : (Nat) × (Nat) => match p with | (n, k) => natP (k % 11)) (by rintro ⟨n, k⟩ ⟨n', k'⟩ h; simp at h; first | (simp [h]; done) | omega | (simp [h]; omega)) (n, k)
theorem tab_some1_ok : TabOK Tryd.prog 58 tab_some1 := tabOf_ok (by rintro ⟨n, k⟩ h; exact some1_spec n k h)
noncomputable abbrev ent_some1 : FuncId × List Nat × Tab := (58, [], tab_some1)
attribute [go_sem] tab_some1_eq
theorem rowB_none {n : Nat} {L : List Int} {b : Nat} (h : ∀ e, b < e → e ≤ L.length → R7.pre n L b ≠ R7.pre n L e) : rowB n L b = -1 := by
  unfold rowB
  refine idxBy_none fun i y hy => ?_
  have hil := (List.getElem?_eq_some_iff.1 hy).1
  rw [List.length_drop, preL_length] at hil
  rw [List.getElem?_drop, preL_get (by omega)] at hy
  cases hy
  rw [beq_eq_false_iff_ne]
  exact h _ (by omega) (by omega)
theorem rowF_none {n : Nat} {L : List Int} (h : ∀ b e, b < e → e ≤ L.length → R7.pre n L b ≠ R7.pre n L e) : ∀ f b, rowF n L b f = (0, 0, 12)
  | 0, _ => rfl
  | f + 1, b => by rw [rowF, rowB_none (h b), if_neg (by omega), rowF_none h f]
theorem rowM_nat {n : Nat} {L : List Int} (h : Okl n L) : rowM n L = rowF n L 0 (L.length + 1) := by unfold rowM; rw [if_pos h.check, Int.toNat_natCast]
theorem someM_nat {n : Nat} {L : List Int} (h : Okl n L) : someM n L = match R7.someL n L with
  | none => ([], 12)
  | some l => (ofN l, 0) := by unfold someM; rw [if_pos h.check, Int.toNat_natCast]; rfl
def bestA (o : Option (List Nat)) : AV := match o with
  | none => .p (.val (.slice none 0 0))
  | some l => .p (ints (ofN l))
structure Best (n : Nat) (L : List Int) (d : Nat × Option (List Nat)) : Prop where
  ge : 1 ≤ d.1
  le : d.1 ≤ L.length + 1
  non : d.2 = none → ∀ i, 1 ≤ i → i < d.1 → R7.whole n L i = []
  som : ∀ l, d.2 = some l → 2 ≤ d.1 ∧ (∀ i, 1 ≤ i → i < d.1 - 1 → R7.whole n L i = []) ∧ ∃ r, R7.whole n L (d.1 - 1) = l :: r

theorem LotSome_spec (x : Nat × (List Nat)) (k : Nat) (hpre : HeapOK x ∧ k < 256) : Ret Tryd.prog 15 [heapP x, u8P k] (boolP true) := by
  refine fn_of (T := [ent_works, ent_wholesL, ent_some7, ent_row7, ent_same7]) (N := 143) (RO := [2, 3]) (CH := []) (KS := [0, 1, 2, 3, 4, 5, 6, 7, 8, 9, 10, 11, 12, 13, 14, 15, 16, 17, 31, 40, 58, 92, 94, 95, 96, 102, 114]) (NS := []) (fun args w => Tryd.call15 args w) Tryd.func15 rfl rfl (by simp) mixed (by kernel_rfl) ⟨tab_works_ok, tab_wholesL_ok, tab_some7_ok, tab_row7_ok, tab_same7_ok, trivial⟩ ?_
  simp only [go_sem, ↓reduceIte, Nat.reduceLT, Nat.reduceLeDiff, Nat.reduceEqDiff, Nat.reduceAdd, Nat.reduceSub, Nat.reduceDiv, Nat.reduceMod, Nat.reduceMul, Nat.reduceBEq, Nat.reduceBNe, reduceCtorEq, Int.reduceLT, Int.reduceLE, Int.reduceEq, Int.reduceNe, Int.reduceBEq, Int.reduceBNe, Int.reduceAdd, Int.reduceSub, Int.reduceNeg, Int.reduceToNat]
  obtain ⟨hok, hk⟩ := hpre
  have hl := hok.len
  have hr := Nat.mod_lt x.1 (show 6 > 0 by omega)
  obtain ⟨n, hn⟩ : ∃ n, 1 + x.1 % 6 = n := ⟨_, rfl⟩
  have h1 : 1 ≤ n := by omega
  have h6 : n ≤ 6 := by omega
  have hz1 := some1_spec n k hk
  have ok := made_ok (W := x.2) (m := k % 11) h1 h6 (by omega) hl
  have hmade := made_spec x 6 58 [.ref [u8P k] 0] (k % 11) hok (by omega) (by omega) (by omega) (by rw [hn]; exact hz1)
  rw [hn, show min (k % 11) 12 = k % 11 by omega] at hmade
  obtain ⟨L, hL⟩ : ∃ L, R7.madeL x.2 (k % 11) = L := ⟨_, rfl⟩
  rw [hL] at ok hmade
  have h12 := ok.len
  have hLz : sz L.length := by unfold sz; omega
  simp only [go_sem, ↓reduceIte, Nat.reduceLT, Nat.reduceLeDiff, Nat.reduceEqDiff, Nat.reduceAdd, Nat.reduceSub, Nat.reduceDiv, Nat.reduceMod, Nat.reduceMul, Nat.reduceBEq, Nat.reduceBNe, reduceCtorEq, Int.reduceLT, Int.reduceLE, Int.reduceEq, Int.reduceNe, Int.reduceBEq, Int.reduceBNe, Int.reduceAdd, Int.reduceSub, Int.reduceNeg, Int.reduceToNat, u16s_one, u16s_take12 hl]
  (repeat with_reducible refine And.intro (by (repeat' with_reducible refine And.intro ?_ ?_) <;> first | with_reducible assumption | omega | (simp only [InK_i64, InK_u64, InK_u8]; omega) | (unfold sz; omega) | exact True.intro) ?_)
  refine vret_pure hmade rfl (LeL.refl _) (by decide) ?_
  simp only [go_sem, ↓reduceIte, Nat.reduceLT, Nat.reduceLeDiff, Nat.reduceEqDiff, Nat.reduceAdd, Nat.reduceSub, Nat.reduceDiv, Nat.reduceMod, Nat.reduceMul, Nat.reduceBEq, Nat.reduceBNe, reduceCtorEq, Int.reduceLT, Int.reduceLE, Int.reduceEq, Int.reduceNe, Int.reduceBEq, Int.reduceBNe, Int.reduceAdd, Int.reduceSub, Int.reduceNeg, Int.reduceToNat]
  refine vwhile [5,6,7,8] [] [] (Best n L) (fun d => L.length + 1 - d.1 + (if d.2 = none then 1 else 0)) (fun d => ⟨[(5,.p (natP n)),(6,.p (ints L)),(7,bestA d.2),(8,.p (natP d.1))], []⟩) (1, none) (by first | rfl | (simp only [go_sem, ↓reduceIte, Nat.reduceLT, Nat.reduceLeDiff, Nat.reduceEqDiff, Nat.reduceAdd, Nat.reduceSub, Nat.reduceDiv, Nat.reduceMod, Nat.reduceMul, Nat.reduceBEq, Nat.reduceBNe, reduceCtorEq, Int.reduceLT, Int.reduceLE, Int.reduceEq, Int.reduceNe, Int.reduceBEq, Int.reduceBNe, Int.reduceAdd, Int.reduceSub, Int.reduceNeg, Int.reduceToNat]; first | done | rfl)) ⟨Nat.le_refl _, by simp, fun _ i h h2 => by simp at h2; omega, fun l h => by cases h⟩ ?_
  rintro ⟨d, o⟩ ⟨hge, hle, hnon, hsom⟩
  simp only at hge hle hnon hsom
  cases o with
  | none =>
    have hI := hnon rfl
    simp only [bestA]
    by_cases hdl : d ≤ L.length
    · cases hw : R7.whole n L d with
      | nil =>
        simp only [go_sem, ↓reduceIte, Nat.reduceLT, Nat.reduceLeDiff, Nat.reduceEqDiff, Nat.reduceAdd, Nat.reduceSub, Nat.reduceDiv, Nat.reduceMod, Nat.reduceMul, Nat.reduceBEq, Nat.reduceBNe, reduceCtorEq, Int.reduceLT, Int.reduceLE, Int.reduceEq, Int.reduceNe, Int.reduceBEq, Int.reduceBNe, Int.reduceAdd, Int.reduceSub, Int.reduceNeg, Int.reduceToNat, show (d : Int) ≤ (L.length : Int) by omega, hw, List.map_nil, List.length_nil, Int.lt_irrefl, Int.ofNat_zero]
        exact ⟨ok, by rw [InK_i64]; omega, (d + 1, none), by simp only [if_true]; omega, ⟨by simp only; omega, by simp only; omega, fun _ i h2 h3 => by
          by_cases e : i = d
          · subst e; exact hw
          · exact hI i h2 (by simp only at h3; omega), (fun l h => (by cases h))⟩, rfl⟩
      | cons l r =>
        have hg : (ofN l :: r.map ofN)[0]? = some (ofN l) := rfl
        simp only [go_sem, ↓reduceIte, Nat.reduceLT, Nat.reduceLeDiff, Nat.reduceEqDiff, Nat.reduceAdd, Nat.reduceSub, Nat.reduceDiv, Nat.reduceMod, Nat.reduceMul, Nat.reduceBEq, Nat.reduceBNe, reduceCtorEq, Int.reduceLT, Int.reduceLE, Int.reduceEq, Int.reduceNe, Int.reduceBEq, Int.reduceBNe, Int.reduceAdd, Int.reduceSub, Int.reduceNeg, Int.reduceToNat, show (d : Int) ≤ (L.length : Int) by omega, hw, List.map_cons, List.length_cons, List.length_map, show (0 : Int) < ((r.length + 1 : Nat) : Int) by omega, lof_getD hg]
        exact ⟨ok, by rw [InK_i64]; omega, (d + 1, some l), by simp only [reduceCtorEq, if_false]; omega, ⟨by simp only; omega, by simp only; omega, (fun h => (by cases h)), (fun l' h => (by
          cases h
          exact ⟨by simp only; omega, fun i h2 h3 => hI i h2 (by simp only at h3; omega), r, hw⟩))⟩, rfl⟩
    · have hsome : R7.someL n L = none := R7.someU_none _ _ fun i h2 h3 => hI i h2 (by omega)
      have k1 := someM_nat ok
      rw [hsome] at k1
      simp only at k1
      obtain ⟨hlt, hrow⟩ := R7.none_few (show 0 < n by omega) (L := L) fun i h2 h3 => hI i h2 (by omega)
      have k2 := rowM_nat ok
      rw [rowF_none hrow] at k2
      simp only [go_sem, ↓reduceIte, Nat.reduceLT, Nat.reduceLeDiff, Nat.reduceEqDiff, Nat.reduceAdd, Nat.reduceSub, Nat.reduceDiv, Nat.reduceMod, Nat.reduceMul, Nat.reduceBEq, Nat.reduceBNe, reduceCtorEq, Int.reduceLT, Int.reduceLE, Int.reduceEq, Int.reduceNe, Int.reduceBEq, Int.reduceBNe, Int.reduceAdd, Int.reduceSub, Int.reduceNeg, Int.reduceToNat, show ¬ (d : Int) ≤ (L.length : Int) by omega, k1, k2, show (L.length : Int) < (n : Int) by omega]
      exact ⟨hLz, hLz, ex_le_refl rfl⟩
  | some l =>
    obtain ⟨hd2, hI, r, hw⟩ := hsom l rfl
    simp only [bestA]
    have hlm : l ∈ R7.whole n L (d - 1) := by rw [hw]; simp
    obtain ⟨m1, m2, m3⟩ := R7.whole_mem12 h12 hlm
    have hll : l.length ≤ n := by rw [m3]; exact R7.fewest_le (L := L) (k := d - 1) (by omega) (by omega) hI
    have hne : ofN l ≠ [] := fun e => by have := congrArg List.length e; rw [ofN_length, List.length_nil] at this; omega
    have hsome : R7.someL n L = some l := R7.someU_some hw _ _ (by omega) (by omega) hI
    have k1 := someM_nat ok
    rw [hsome] at k1
    simp only at k1
    have k2 := rowM_nat ok
    have hlz : sz l.length := by unfold sz; omega
    have d1 : decide (ofN l = ofN l) = true := by simp
    obtain ⟨q, qs, hq⟩ : ∃ q qs, ofN l = q :: qs := by
      cases h : ofN l with
      | nil => exact absurd h hne
      | cons q qs => exact ⟨q, qs, rfl⟩
    have hlb : ∀ t : Bool, (lof intP (ofN l) ≠ [] → t = false) → t = false := fun t ht => ht (fun e => hne (by have := congrArg List.length e; rw [lof_length] at this; exact List.eq_nil_of_length_eq_zero this))
    obtain ⟨⟨r1, r2, r3⟩, hR⟩ : ∃ r, rowF n L 0 (L.length + 1) = r := ⟨_, rfl⟩
    rw [hR] at k2
    by_cases hdl : d ≤ L.length
    · simp only [go_sem, ↓reduceIte, Nat.reduceLT, Nat.reduceLeDiff, Nat.reduceEqDiff, Nat.reduceAdd, Nat.reduceSub, Nat.reduceDiv, Nat.reduceMod, Nat.reduceMul, Nat.reduceBEq, Nat.reduceBNe, reduceCtorEq, Int.reduceLT, Int.reduceLE, Int.reduceEq, Int.reduceNe, Int.reduceBEq, Int.reduceBNe, Int.reduceAdd, Int.reduceSub, Int.reduceNeg, Int.reduceToNat, show (d : Int) ≤ (L.length : Int) by omega, k1, k2]
      intro t0 ht0
      obtain rfl := hlb t0 ht0
      simp only [go_sem, ↓reduceIte, Nat.reduceLT, Nat.reduceLeDiff, Nat.reduceEqDiff, Nat.reduceAdd, Nat.reduceSub, Nat.reduceDiv, Nat.reduceMod, Nat.reduceMul, Nat.reduceBEq, Nat.reduceBNe, reduceCtorEq, Int.reduceLT, Int.reduceLE, Int.reduceEq, Int.reduceNe, Int.reduceBEq, Int.reduceBNe, Int.reduceAdd, Int.reduceSub, Int.reduceNeg, Int.reduceToNat, k1, k2]
      refine ⟨hLz, hLz, ?_⟩
      intro t ht
      obtain rfl := hlb t ht
      simp only [go_sem, ↓reduceIte, Nat.reduceLT, Nat.reduceLeDiff, Nat.reduceEqDiff, Nat.reduceAdd, Nat.reduceSub, Nat.reduceDiv, Nat.reduceMod, Nat.reduceMul, Nat.reduceBEq, Nat.reduceBNe, reduceCtorEq, Int.reduceLT, Int.reduceLE, Int.reduceEq, Int.reduceNe, Int.reduceBEq, Int.reduceBNe, Int.reduceAdd, Int.reduceSub, Int.reduceNeg, Int.reduceToNat, d1, ofN_length, show ¬ ((n : Int) < (l.length : Int)) by omega]
      refine ⟨⟨hlz, hlz⟩, ?_⟩
      refine vfor [5,6,12,13,14,94,95] [] [] L.length (fun b => rowF n L 0 (L.length + 1) = rowF n L b (L.length + 1 - b) ∧ ∀ b' e, b' < b → b' < e → e ≤ L.length → R7.pre n L b' ≠ R7.pre n L e) (fun b => ⟨[(5,.p (natP n)),(6,.p (ints L)),(12,.p (intP r1)),(13,.p (intP r2)),(14,.p (errP r3)),(94,.p (natP L.length)),(95,.p (natP b))], []⟩) (by first | rfl | (simp only [go_sem, ↓reduceIte, Nat.reduceLT, Nat.reduceLeDiff, Nat.reduceEqDiff, Nat.reduceAdd, Nat.reduceSub, Nat.reduceDiv, Nat.reduceMod, Nat.reduceMul, Nat.reduceBEq, Nat.reduceBNe, reduceCtorEq, Int.reduceLT, Int.reduceLE, Int.reduceEq, Int.reduceNe, Int.reduceBEq, Int.reduceBNe, Int.reduceAdd, Int.reduceSub, Int.reduceNeg, Int.reduceToNat]; first | done | rfl)) ⟨rfl, fun b' e h => by omega⟩ ?_
      rintro b hb ⟨hI1, hI2⟩
      by_cases hbl : b < L.length
      · simp only [go_sem, ↓reduceIte, Nat.reduceLT, Nat.reduceLeDiff, Nat.reduceEqDiff, Nat.reduceAdd, Nat.reduceSub, Nat.reduceDiv, Nat.reduceMod, Nat.reduceMul, Nat.reduceBEq, Nat.reduceBNe, reduceCtorEq, Int.reduceLT, Int.reduceLE, Int.reduceEq, Int.reduceNe, Int.reduceBEq, Int.reduceBNe, Int.reduceAdd, Int.reduceSub, Int.reduceNeg, Int.reduceToNat, hbl]
        refine vfor [5,6,12,13,14,15,16,17,94,95] [] [] (L.length - b) (fun j => ∀ e, b < e → e ≤ b + j → R7.pre n L b ≠ R7.pre n L e) (fun j => ⟨[(5,.p (natP n)),(6,.p (ints L)),(12,.p (intP r1)),(13,.p (intP r2)),(14,.p (errP r3)),(15,.p (natP b)),(16,.p (intP ((L.take (b + j)).sum - (L.take b).sum))),(17,.p (natP (b + j))),(94,.p (natP L.length)),(95,.p (natP b))], []⟩) (by first | rfl | (simp only [go_sem, ↓reduceIte, Nat.reduceLT, Nat.reduceLeDiff, Nat.reduceEqDiff, Nat.reduceAdd, Nat.reduceSub, Nat.reduceDiv, Nat.reduceMod, Nat.reduceMul, Nat.reduceBEq, Nat.reduceBNe, reduceCtorEq, Int.reduceLT, Int.reduceLE, Int.reduceEq, Int.reduceNe, Int.reduceBEq, Int.reduceBNe, Int.reduceAdd, Int.reduceSub, Int.reduceNeg, Int.reduceToNat, Nat.add_zero, Int.sub_self]; first | done | rfl)) (fun e h h2 => by omega) ?_
        intro j hj hJ
        by_cases hjl : j < L.length - b
        · obtain ⟨z, hz⟩ := get_some (show b + j < L.length by omega)
          have hs : (L.take (b + j + 1)).sum = (L.take (b + j)).sum + z := by rw [take_succ_of hz, List.sum_append]; simp
          have hsb2 := sum_bound ok (b + j + 1) (by omega) b (by omega)
          have hzr := row_zero (n := n) (L := L) (b := b) (e := b + j + 1)
          have e2 : (L.take (b + j)).sum - (L.take b).sum + z = (L.take (b + j + 1)).sum - (L.take b).sum := by omega
          have hc2 : ((b + j : Nat) : Int) < (L.length : Int) := by omega
          cases hv : (((L.take (b + j + 1)).sum - (L.take b).sum) % (n : Int) == 0) with
          | true =>
            have hpe := hzr.1 (by simpa using hv)
            have hrb : rowB n L b = j := by
              unfold rowB
              refine idxBy_hit (x := R7.pre n L (b + j + 1)) (fun i y hi hy => ?_) ?_ (by rw [beq_iff_eq]; exact hpe)
              · rw [List.getElem?_drop, preL_get (by omega)] at hy
                cases hy
                rw [beq_eq_false_iff_ne]
                exact hJ _ (by omega) (by omega)
              · rw [List.getElem?_drop, show b + 1 + j = b + j + 1 by omega, preL_get (by omega)]
            have hfin : rowF n L 0 (L.length + 1) = ((b : Int), ((b + j + 1 : Nat) : Int), 0) := by
              rw [hI1, show L.length + 1 - b = (L.length - b) + 1 by omega, rowF, hrb, if_pos (by omega), show (b : Int) + 1 + j = ((b + j + 1 : Nat) : Int) by omega]
            rw [hR] at hfin
            cases hfin
            have eb : ((b : Int) == (b : Int)) = true := by simp
            have eb2 : (((b + j + 1 : Nat) : Int) == ((b + j : Nat) : Int) + 1) = true := by rw [beq_iff_eq]; omega
            simp only [go_sem, ↓reduceIte, Nat.reduceLT, Nat.reduceLeDiff, Nat.reduceEqDiff, Nat.reduceAdd, Nat.reduceSub, Nat.reduceDiv, Nat.reduceMod, Nat.reduceMul, Nat.reduceBEq, Nat.reduceBNe, reduceCtorEq, Int.reduceLT, Int.reduceLE, Int.reduceEq, Int.reduceNe, Int.reduceBEq, Int.reduceBNe, Int.reduceAdd, Int.reduceSub, Int.reduceNeg, Int.reduceToNat, hc2, lof_getD hz, e2, hv, eb, eb2]
            exact ⟨by rw [InK_i64]; omega, ⟨by omega, by omega⟩, by rw [InK_i64]; omega, ex_le_refl rfl⟩
          | false =>
            simp only [go_sem, ↓reduceIte, Nat.reduceLT, Nat.reduceLeDiff, Nat.reduceEqDiff, Nat.reduceAdd, Nat.reduceSub, Nat.reduceDiv, Nat.reduceMod, Nat.reduceMul, Nat.reduceBEq, Nat.reduceBNe, reduceCtorEq, Int.reduceLT, Int.reduceLE, Int.reduceEq, Int.reduceNe, Int.reduceBEq, Int.reduceBNe, Int.reduceAdd, Int.reduceSub, Int.reduceNeg, Int.reduceToNat, hc2, lof_getD hz, e2, hv]
            refine ⟨by rw [InK_i64]; omega, ⟨by omega, by omega⟩, by rw [InK_i64]; omega, hjl, fun e h2 h3 => ?_, rfl⟩
            by_cases he : e = b + j + 1
            · subst he; exact fun h => by rw [hzr.2 h] at hv; cases hv
            · exact hJ e h2 (by omega)
        · obtain rfl : j = L.length - b := by omega
          have hc2 : ¬ ((b + (L.length - b) : Nat) : Int) < (L.length : Int) := by omega
          have hr2 : rowB n L b = -1 := rowB_none fun e h2 h3 => hJ e h2 (by omega)
          have hI3 : rowF n L 0 (L.length + 1) = rowF n L (b + 1) (L.length + 1 - (b + 1)) := by rw [hI1, show L.length + 1 - b = (L.length + 1 - (b + 1)) + 1 by omega, rowF, hr2, if_neg (by omega)]
          simp only [go_sem, ↓reduceIte, Nat.reduceLT, Nat.reduceLeDiff, Nat.reduceEqDiff, Nat.reduceAdd, Nat.reduceSub, Nat.reduceDiv, Nat.reduceMod, Nat.reduceMul, Nat.reduceBEq, Nat.reduceBNe, reduceCtorEq, Int.reduceLT, Int.reduceLE, Int.reduceEq, Int.reduceNe, Int.reduceBEq, Int.reduceBNe, Int.reduceAdd, Int.reduceSub, Int.reduceNeg, Int.reduceToNat, hc2]
          refine ⟨by rw [InK_i64]; omega, hbl, ⟨hI3, fun b' e h2 h3 h4 => ?_⟩, rfl⟩
          by_cases he : b' = b
          · subst he; exact hJ e h3 (by omega)
          · exact hI2 b' e (by omega) h3 h4
      · obtain rfl : b = L.length := by omega
        have hr2 : rowB n L L.length = -1 := rowB_none fun e h2 h3 => by omega
        have hfin : rowF n L 0 (L.length + 1) = (0, 0, 12) := by rw [hI1, show L.length + 1 - L.length = 0 + 1 by omega, rowF, hr2, if_neg (by omega)]; rfl
        rw [hR] at hfin
        cases hfin
        have hlt : L.length < n := Classical.byContradiction fun hc => by
          obtain ⟨i, j, g1, g2, g3⟩ := R7.some_row' (show 0 < n by omega) L (by omega)
          exact hI2 i j (by omega) g1 (by omega) g3
        simp only [go_sem, ↓reduceIte, Nat.reduceLT, Nat.reduceLeDiff, Nat.reduceEqDiff, Nat.reduceAdd, Nat.reduceSub, Nat.reduceDiv, Nat.reduceMod, Nat.reduceMul, Nat.reduceBEq, Nat.reduceBNe, reduceCtorEq, Int.reduceLT, Int.reduceLE, Int.reduceEq, Int.reduceNe, Int.reduceBEq, Int.reduceBNe, Int.reduceAdd, Int.reduceSub, Int.reduceNeg, Int.reduceToNat, Nat.lt_irrefl, show (L.length : Int) < (n : Int) by omega]
        exact ex_le_refl rfl
    · simp only [go_sem, ↓reduceIte, Nat.reduceLT, Nat.reduceLeDiff, Nat.reduceEqDiff, Nat.reduceAdd, Nat.reduceSub, Nat.reduceDiv, Nat.reduceMod, Nat.reduceMul, Nat.reduceBEq, Nat.reduceBNe, reduceCtorEq, Int.reduceLT, Int.reduceLE, Int.reduceEq, Int.reduceNe, Int.reduceBEq, Int.reduceBNe, Int.reduceAdd, Int.reduceSub, Int.reduceNeg, Int.reduceToNat, show ¬ (d : Int) ≤ (L.length : Int) by omega, k1, k2]
      refine ⟨hLz, hLz, ?_⟩
      intro t ht
      obtain rfl := hlb t ht
      simp only [go_sem, ↓reduceIte, Nat.reduceLT, Nat.reduceLeDiff, Nat.reduceEqDiff, Nat.reduceAdd, Nat.reduceSub, Nat.reduceDiv, Nat.reduceMod, Nat.reduceMul, Nat.reduceBEq, Nat.reduceBNe, reduceCtorEq, Int.reduceLT, Int.reduceLE, Int.reduceEq, Int.reduceNe, Int.reduceBEq, Int.reduceBNe, Int.reduceAdd, Int.reduceSub, Int.reduceNeg, Int.reduceToNat, d1, ofN_length, show ¬ ((n : Int) < (l.length : Int)) by omega]
      refine ⟨⟨hlz, hlz⟩, ?_⟩
      refine vfor [5,6,12,13,14,94,95] [] [] L.length (fun b => rowF n L 0 (L.length + 1) = rowF n L b (L.length + 1 - b) ∧ ∀ b' e, b' < b → b' < e → e ≤ L.length → R7.pre n L b' ≠ R7.pre n L e) (fun b => ⟨[(5,.p (natP n)),(6,.p (ints L)),(12,.p (intP r1)),(13,.p (intP r2)),(14,.p (errP r3)),(94,.p (natP L.length)),(95,.p (natP b))], []⟩) (by first | rfl | (simp only [go_sem, ↓reduceIte, Nat.reduceLT, Nat.reduceLeDiff, Nat.reduceEqDiff, Nat.reduceAdd, Nat.reduceSub, Nat.reduceDiv, Nat.reduceMod, Nat.reduceMul, Nat.reduceBEq, Nat.reduceBNe, reduceCtorEq, Int.reduceLT, Int.reduceLE, Int.reduceEq, Int.reduceNe, Int.reduceBEq, Int.reduceBNe, Int.reduceAdd, Int.reduceSub, Int.reduceNeg, Int.reduceToNat]; first | done | rfl)) ⟨rfl, fun b' e h => by omega⟩ ?_
      rintro b hb ⟨hI1, hI2⟩
      by_cases hbl : b < L.length
      · simp only [go_sem, ↓reduceIte, Nat.reduceLT, Nat.reduceLeDiff, Nat.reduceEqDiff, Nat.reduceAdd, Nat.reduceSub, Nat.reduceDiv, Nat.reduceMod, Nat.reduceMul, Nat.reduceBEq, Nat.reduceBNe, reduceCtorEq, Int.reduceLT, Int.reduceLE, Int.reduceEq, Int.reduceNe, Int.reduceBEq, Int.reduceBNe, Int.reduceAdd, Int.reduceSub, Int.reduceNeg, Int.reduceToNat, hbl]
        refine vfor [5,6,12,13,14,15,16,17,94,95] [] [] (L.length - b) (fun j => ∀ e, b < e → e ≤ b + j → R7.pre n L b ≠ R7.pre n L e) (fun j => ⟨[(5,.p (natP n)),(6,.p (ints L)),(12,.p (intP r1)),(13,.p (intP r2)),(14,.p (errP r3)),(15,.p (natP b)),(16,.p (intP ((L.take (b + j)).sum - (L.take b).sum))),(17,.p (natP (b + j))),(94,.p (natP L.length)),(95,.p (natP b))], []⟩) (by first | rfl | (simp only [go_sem, ↓reduceIte, Nat.reduceLT, Nat.reduceLeDiff, Nat.reduceEqDiff, Nat.reduceAdd, Nat.reduceSub, Nat.reduceDiv, Nat.reduceMod, Nat.reduceMul, Nat.reduceBEq, Nat.reduceBNe, reduceCtorEq, Int.reduceLT, Int.reduceLE, Int.reduceEq, Int.reduceNe, Int.reduceBEq, Int.reduceBNe, Int.reduceAdd, Int.reduceSub, Int.reduceNeg, Int.reduceToNat, Nat.add_zero, Int.sub_self]; first | done | rfl)) (fun e h h2 => by omega) ?_
        intro j hj hJ
        by_cases hjl : j < L.length - b
        · obtain ⟨z, hz⟩ := get_some (show b + j < L.length by omega)
          have hs : (L.take (b + j + 1)).sum = (L.take (b + j)).sum + z := by rw [take_succ_of hz, List.sum_append]; simp
          have hsb2 := sum_bound ok (b + j + 1) (by omega) b (by omega)
          have hzr := row_zero (n := n) (L := L) (b := b) (e := b + j + 1)
          have e2 : (L.take (b + j)).sum - (L.take b).sum + z = (L.take (b + j + 1)).sum - (L.take b).sum := by omega
          have hc2 : ((b + j : Nat) : Int) < (L.length : Int) := by omega
          cases hv : (((L.take (b + j + 1)).sum - (L.take b).sum) % (n : Int) == 0) with
          | true =>
            have hpe := hzr.1 (by simpa using hv)
            have hrb : rowB n L b = j := by
              unfold rowB
              refine idxBy_hit (x := R7.pre n L (b + j + 1)) (fun i y hi hy => ?_) ?_ (by rw [beq_iff_eq]; exact hpe)
              · rw [List.getElem?_drop, preL_get (by omega)] at hy
                cases hy
                rw [beq_eq_false_iff_ne]
                exact hJ _ (by omega) (by omega)
              · rw [List.getElem?_drop, show b + 1 + j = b + j + 1 by omega, preL_get (by omega)]
            have hfin : rowF n L 0 (L.length + 1) = ((b : Int), ((b + j + 1 : Nat) : Int), 0) := by
              rw [hI1, show L.length + 1 - b = (L.length - b) + 1 by omega, rowF, hrb, if_pos (by omega), show (b : Int) + 1 + j = ((b + j + 1 : Nat) : Int) by omega]
            rw [hR] at hfin
            cases hfin
            have eb : ((b : Int) == (b : Int)) = true := by simp
            have eb2 : (((b + j + 1 : Nat) : Int) == ((b + j : Nat) : Int) + 1) = true := by rw [beq_iff_eq]; omega
            simp only [go_sem, ↓reduceIte, Nat.reduceLT, Nat.reduceLeDiff, Nat.reduceEqDiff, Nat.reduceAdd, Nat.reduceSub, Nat.reduceDiv, Nat.reduceMod, Nat.reduceMul, Nat.reduceBEq, Nat.reduceBNe, reduceCtorEq, Int.reduceLT, Int.reduceLE, Int.reduceEq, Int.reduceNe, Int.reduceBEq, Int.reduceBNe, Int.reduceAdd, Int.reduceSub, Int.reduceNeg, Int.reduceToNat, hc2, lof_getD hz, e2, hv, eb, eb2]
            exact ⟨by rw [InK_i64]; omega, ⟨by omega, by omega⟩, by rw [InK_i64]; omega, ex_le_refl rfl⟩
          | false =>
            simp only [go_sem, ↓reduceIte, Nat.reduceLT, Nat.reduceLeDiff, Nat.reduceEqDiff, Nat.reduceAdd, Nat.reduceSub, Nat.reduceDiv, Nat.reduceMod, Nat.reduceMul, Nat.reduceBEq, Nat.reduceBNe, reduceCtorEq, Int.reduceLT, Int.reduceLE, Int.reduceEq, Int.reduceNe, Int.reduceBEq, Int.reduceBNe, Int.reduceAdd, Int.reduceSub, Int.reduceNeg, Int.reduceToNat, hc2, lof_getD hz, e2, hv]
            refine ⟨by rw [InK_i64]; omega, ⟨by omega, by omega⟩, by rw [InK_i64]; omega, hjl, fun e h2 h3 => ?_, rfl⟩
            by_cases he : e = b + j + 1
            · subst he; exact fun h => by rw [hzr.2 h] at hv; cases hv
            · exact hJ e h2 (by omega)
        · obtain rfl : j = L.length - b := by omega
          have hc2 : ¬ ((b + (L.length - b) : Nat) : Int) < (L.length : Int) := by omega
          have hr2 : rowB n L b = -1 := rowB_none fun e h2 h3 => hJ e h2 (by omega)
          have hI3 : rowF n L 0 (L.length + 1) = rowF n L (b + 1) (L.length + 1 - (b + 1)) := by rw [hI1, show L.length + 1 - b = (L.length + 1 - (b + 1)) + 1 by omega, rowF, hr2, if_neg (by omega)]
          simp only [go_sem, ↓reduceIte, Nat.reduceLT, Nat.reduceLeDiff, Nat.reduceEqDiff, Nat.reduceAdd, Nat.reduceSub, Nat.reduceDiv, Nat.reduceMod, Nat.reduceMul, Nat.reduceBEq, Nat.reduceBNe, reduceCtorEq, Int.reduceLT, Int.reduceLE, Int.reduceEq, Int.reduceNe, Int.reduceBEq, Int.reduceBNe, Int.reduceAdd, Int.reduceSub, Int.reduceNeg, Int.reduceToNat, hc2]
          refine ⟨by rw [InK_i64]; omega, hbl, ⟨hI3, fun b' e h2 h3 h4 => ?_⟩, rfl⟩
          by_cases he : b' = b
          · subst he; exact hJ e h3 (by omega)
          · exact hI2 b' e (by omega) h3 h4
      · obtain rfl : b = L.length := by omega
        have hr2 : rowB n L L.length = -1 := rowB_none fun e h2 h3 => by omega
        have hfin : rowF n L 0 (L.length + 1) = (0, 0, 12) := by rw [hI1, show L.length + 1 - L.length = 0 + 1 by omega, rowF, hr2, if_neg (by omega)]; rfl
        rw [hR] at hfin
        cases hfin
        have hlt : L.length < n := Classical.byContradiction fun hc => by
          obtain ⟨i, j, g1, g2, g3⟩ := R7.some_row' (show 0 < n by omega) L (by omega)
          exact hI2 i j (by omega) g1 (by omega) g3
        simp only [go_sem, ↓reduceIte, Nat.reduceLT, Nat.reduceLeDiff, Nat.reduceEqDiff, Nat.reduceAdd, Nat.reduceSub, Nat.reduceDiv, Nat.reduceMod, Nat.reduceMul, Nat.reduceBEq, Nat.reduceBNe, reduceCtorEq, Int.reduceLT, Int.reduceLE, Int.reduceEq, Int.reduceNe, Int.reduceBEq, Int.reduceBNe, Int.reduceAdd, Int.reduceSub, Int.reduceNeg, Int.reduceToNat, Nat.lt_irrefl, show (L.length : Int) < (n : Int) by omega]
        exact ex_le_refl rfl
end Go.V
