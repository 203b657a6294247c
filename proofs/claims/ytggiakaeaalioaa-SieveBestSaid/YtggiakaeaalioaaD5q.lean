/-
  Contracts of small functions of the law of chapter 05. Conditions: none.
-/
import Derived.Test.YtggiakaeaalioaaD5l
import Derived.Test.YtggiakaeaalioaaRD5
import Derived.Test.YtggiakaeaalioaaVRev
import Derived.Test.YtggiakaeaalioaaP5g
set_option linter.unusedVariables false
set_option linter.unusedSimpArgs false
set_option linter.deprecated false
namespace Go.V
open Go.Proofs
set_option maxRecDepth 100000
set_option maxHeartbeats 4000000

theorem u8s_one (A : List Nat) : (List.map AV.p (lof u8P A)).all AV.one = true := by
  rw [List.all_eq_true]
  intro x hx
  simp only [lof, List.map_map, List.mem_map, Function.comp] at hx
  obtain ⟨a, _, rfl⟩ := hx
  rfl
@[simp] theorem lof_u8P_inj {l l' : List Nat} : lof u8P l = lof u8P l' ↔ l = l' := lof_inj (by intro a b h; simp at h; omega)
theorem u8s_norm (A : List Nat) : List.map (norm0 1) (lof u8P A) = lof u8P A := by
  simp only [lof, List.map_map]
  apply List.map_congr_left
  intro a _; rfl
theorem u8s_take9 {A : List Nat} (h : A.length = 9) : List.take 9 (lof u8P A) = lof u8P A := List.take_of_length_le (by rw [lof_length]; omega)
theorem u8s_take8 {A : List Nat} (h : A.length = 8) : List.take 8 (lof u8P A) = lof u8P A := List.take_of_length_le (by rw [lof_length]; omega)
theorem emod_nat (a b : Nat) : (a : Int) % (b : Int) = ((a % b : Nat) : Int) := (Int.natCast_emod a b).symm

/-- loads by numbers -/
def madeD (A : List Nat) (k m : Nat) : List Int := ((A.drop 1).take (1 + A.headD 0 % k)).map fun x => ((1 + x % m : Nat) : Int)
theorem madeD_len {A : List Nat} {k m : Nat} (hA : A.length = 9) (h1 : 1 ≤ k) (h8 : k ≤ 8) : (madeD A k m).length = 1 + A.headD 0 % k := by
  have := Nat.mod_lt (A.headD 0) (show k > 0 by omega)
  unfold madeD
  simp only [List.length_map, List.length_take, List.length_drop]; omega
theorem madeD_bd {A : List Nat} {k m : Nat} (h1 : 1 ≤ m) : ∀ x ∈ madeD A k m, 1 ≤ x ∧ x ≤ m := by
  intro x hx
  obtain ⟨y, _, rfl⟩ := List.mem_map.1 hx
  have := Nat.mod_lt y (show m > 0 by omega)
  omega
theorem madeD_check {A : List Nat} {k m : Nat} (hA : A.length = 9) (h1 : 1 ≤ k) (h8 : k ≤ 8) (hm : 1 ≤ m) (h100 : m ≤ 100) : checkL (madeD A k m) = 0 := by
  have := Nat.mod_lt (A.headD 0) (show k > 0 by omega)
  refine checkL_zero.2 ⟨?_, ?_, fun x hx => ?_⟩
  · rw [madeD_len hA h1 h8]; omega
  · rw [madeD_len hA h1 h8]; omega
  · have := madeD_bd (A := A) (k := k) hm x hx; omega

theorem made5_spec (A : List Nat) (k : Nat) (m : Nat) (hpre : U8s 9 A ∧ 1 ≤ k ∧ k ≤ 8 ∧ 1 ≤ m ∧ m ≤ 100) : Ret Try.prog 45 [.agg (lof u8P A), natP k, natP m] (ints (madeD A k m)) := by
  refine fn_of (T := []) (N := 33) (RO := [3, 29]) (CH := []) (KS := [0, 1, 2, 3, 6, 7, 9, 17, 18, 19, 20]) (NS := [6, 7, 30]) (fun args w => Try.call45 args w) Try.func45 rfl rfl (by simp) mixed (by kernel_rfl) trivial ?_
  simp only [go_sem, ↓reduceIte, Nat.reduceLT, Nat.reduceLeDiff, Nat.reduceEqDiff, Nat.reduceAdd, Nat.reduceSub, Nat.reduceDiv, Nat.reduceMod, Nat.reduceMul, Nat.reduceBEq, Nat.reduceBNe, reduceCtorEq, Int.reduceLT, Int.reduceLE, Int.reduceEq, Int.reduceNe, Int.reduceBEq, Int.reduceBNe, Int.reduceAdd, Int.reduceSub, Int.reduceNeg, Int.reduceToNat]
  obtain ⟨⟨hA, hA2⟩, hk1, hk8, hm1, hm2⟩ := hpre
  obtain ⟨c, B, rfl⟩ : ∃ c B, A = c :: B := by
    match A, hA with
    | c :: B, _ => exact ⟨c, B, rfl⟩
  have hB : B.length = 8 := by simpa using hA
  have e1 := emod_nat c k
  have hr1 := Nat.mod_lt c (show k > 0 by omega)
  have e2 : (1 : Int) + ((c % k : Nat) : Int) = ((1 + c % k : Nat) : Int) := by omega
  have hc := hA2 c (by simp)
  have hmd : madeD (c :: B) k m = (B.take (1 + c % k)).map fun x => ((1 + x % m : Nat) : Int) := rfl
  have h0 : (lof u8P (c :: B)).getD 0 default = u8P c := rfl
  have hd1 : (lof u8P (c :: B)).drop 1 = lof u8P B := rfl
  rw [hmd]
  have hnl : (B.take (1 + c % k)).length = 1 + c % k := by simp only [List.length_take]; omega
  simp only [go_sem, ↓reduceIte, Nat.reduceLT, Nat.reduceLeDiff, Nat.reduceEqDiff, Nat.reduceAdd, Nat.reduceSub, Nat.reduceDiv, Nat.reduceMod, Nat.reduceMul, Nat.reduceBEq, Nat.reduceBNe, reduceCtorEq, Int.reduceLT, Int.reduceLE, Int.reduceEq, Int.reduceNe, Int.reduceBEq, Int.reduceBNe, Int.reduceAdd, Int.reduceSub, Int.reduceNeg, Int.reduceToNat, u8s_one, lof_length, List.length_cons, hB, h0, e1, e2, hd1, lof_take, hnl]
  generalize hn : 1 + c % k = n at *
  refine ⟨by rw [InK_i64]; omega, by omega, by rw [InK_i64]; omega, by omega, ?_⟩
  refine vfor [2,7,17,18,19] [7] [.nilS 7 3 1] n (fun _ => True) (fun j => ⟨[(2,.p (natP m)),(7,.sl 7),(17,.p (.list .any 1 (lof u8P (B.take n)))),(18,.p (natP n)),(19,.p (natP j))], [(7,.vec 3 1 (lof intP (((B.take n).map fun x => ((1 + x % m : Nat) : Int)).take j)))]⟩) (by first | rfl | (simp only [go_sem, ↓reduceIte, Nat.reduceLT, Nat.reduceLeDiff, Nat.reduceEqDiff, Nat.reduceAdd, Nat.reduceSub, Nat.reduceDiv, Nat.reduceMod, Nat.reduceMul, Nat.reduceBEq, Nat.reduceBNe, reduceCtorEq, Int.reduceLT, Int.reduceLE, Int.reduceEq, Int.reduceNe, Int.reduceBEq, Int.reduceBNe, Int.reduceAdd, Int.reduceSub, Int.reduceNeg, Int.reduceToNat, List.take_zero]; first | done | rfl)) trivial ?_
  intro j hj _
  by_cases hlt : j < n
  · obtain ⟨x, hx⟩ := get_some (show j < (B.take n).length by omega)
    have hx2 := hA2 x (List.mem_cons_of_mem _ (List.mem_of_mem_take (List.mem_of_getElem? hx)))
    have e3 := emod_nat x m
    have hr2 := Nat.mod_lt x (show m > 0 by omega)
    have e4 : (1 : Int) + ((x % m : Nat) : Int) = ((1 + x % m : Nat) : Int) := by omega
    have hts : ((B.take n).map fun x => ((1 + x % m : Nat) : Int)).take (j + 1) = ((B.take n).map fun x => ((1 + x % m : Nat) : Int)).take j ++ [((1 + x % m : Nat) : Int)] := take_succ_of (by rw [List.getElem?_map, hx]; rfl)
    have hlen : (((B.take n).map fun x => ((1 + x % m : Nat) : Int)).take j).length ≤ 4294967295 := by simp only [List.length_take, List.length_map]; omega
    simp only [go_sem, ↓reduceIte, Nat.reduceLT, Nat.reduceLeDiff, Nat.reduceEqDiff, Nat.reduceAdd, Nat.reduceSub, Nat.reduceDiv, Nat.reduceMod, Nat.reduceMul, Nat.reduceBEq, Nat.reduceBNe, reduceCtorEq, Int.reduceLT, Int.reduceLE, Int.reduceEq, Int.reduceNe, Int.reduceBEq, Int.reduceBNe, Int.reduceAdd, Int.reduceSub, Int.reduceNeg, Int.reduceToNat, hlt, lof_getD hx, hnl, e3, e4, lof_snoc_int]
    rw [hts]
    (repeat with_reducible refine And.intro (by (repeat' with_reducible refine And.intro ?_ ?_) <;> first | with_reducible assumption | omega | (simp only [InK_i64, InK_u64, InK_u8]; omega) | (unfold sz; omega) | exact True.intro) ?_)
    first | rfl | exact ⟨trivial, rfl⟩
  · obtain rfl : j = n := by omega
    have hta : ((B.take j).map fun x => ((1 + x % m : Nat) : Int)).take j = (B.take j).map fun x => ((1 + x % m : Nat) : Int) := List.take_of_length_le (by simp; omega)
    rw [hta]
    simp only [go_sem, ↓reduceIte, Nat.reduceLT, Nat.reduceLeDiff, Nat.reduceEqDiff, Nat.reduceAdd, Nat.reduceSub, Nat.reduceDiv, Nat.reduceMod, Nat.reduceMul, Nat.reduceBEq, Nat.reduceBNe, reduceCtorEq, Int.reduceLT, Int.reduceLE, Int.reduceEq, Int.reduceNe, Int.reduceBEq, Int.reduceBNe, Int.reduceAdd, Int.reduceSub, Int.reduceNeg, Int.reduceToNat, hlt]
    exact ex_le_refl rfl
noncomputable def tab_made5 : Tab := tabOf (fun p : (List Nat) × (Nat) × (Nat) => match p with | (A, k, m) => [.agg (lof u8P A), natP k, natP m]) (fun p : (List Nat) × (Nat) × (Nat) => match p with | (A, k, m) => U8s 9 A ∧ 1 ≤ k ∧ k ≤ 8 ∧ 1 ≤ m ∧ m ≤ 100) (fun p : (List Nat) × (Nat) × (Nat) => match p with | (A, k, m) => ints (madeD A k m))
theorem tab_made5_eq (A : List Nat) (k : Nat) (m : Nat) : tab_made5 [.agg (lof u8P A), natP k, natP m] = some (U8s 9 A ∧ 1 ≤ k ∧ k ≤ 8 ∧ 1 ≤ m ∧ m ≤ 100, .p (ints (madeD A k m))) := tabOf_eq (enc := fun p : (List Nat) × (Nat) × (Nat) => match p with | (A, k, m) => [.agg (lof u8P A), natP k, natP m]) (pre := fun p : (List Nat) × (Nat) × (Nat) => match p with | (A, k, m) => U8s 9 A ∧ 1 ≤ k ∧ k ≤ 8 ∧ 1 ≤ m ∧ m ≤ 100) (out := fun p : (List Nat) × (Nat) × (Nat) => match p with | (A, k, m) => ints (madeD A k m)) (by rintro ⟨A, k, m⟩ ⟨A', k', m'⟩ h; simp at h; first | (simp [h]; done) | omega | (simp [h]; omega)) (A, k, m)
theorem tab_made5_ok : TabOK Try.prog 45 tab_made5 := tabOf_ok (by rintro ⟨A, k, m⟩ h; exact made5_spec A k m h)
noncomputable abbrev ent_made5 : FuncId × List Nat × Tab := (45, [], tab_made5)
attribute [go_sem] tab_made5_eq
theorem madeV5_spec (A : List Nat) (k : Nat) (m : Nat) (hpre : U8s 9 A ∧ 1 ≤ k ∧ k ≤ 8 ∧ 1 ≤ m ∧ m ≤ 100) : FnV Try.prog 45 [.agg (lof u8P A), natP k, natP m] (fun e' sz' ys => e' = 3 ∧ sz' = 1 ∧ ys = lof intP (madeD A k m)) := by
  refine fnV_of (T := []) (N := 33) (RO := [3, 29]) (CH := []) (KS := [0, 1, 2, 3, 6, 7, 9, 17, 18, 19, 20]) (NS := [6, 7, 30]) (fun args w => Try.call45 args w) Try.func45 rfl rfl (by simp) mixed (by kernel_rfl) trivial ?_
  simp only [go_sem, ↓reduceIte, Nat.reduceLT, Nat.reduceLeDiff, Nat.reduceEqDiff, Nat.reduceAdd, Nat.reduceSub, Nat.reduceDiv, Nat.reduceMod, Nat.reduceMul, Nat.reduceBEq, Nat.reduceBNe, reduceCtorEq, Int.reduceLT, Int.reduceLE, Int.reduceEq, Int.reduceNe, Int.reduceBEq, Int.reduceBNe, Int.reduceAdd, Int.reduceSub, Int.reduceNeg, Int.reduceToNat]
  obtain ⟨⟨hA, hA2⟩, hk1, hk8, hm1, hm2⟩ := hpre
  obtain ⟨c, B, rfl⟩ : ∃ c B, A = c :: B := by
    match A, hA with
    | c :: B, _ => exact ⟨c, B, rfl⟩
  have hB : B.length = 8 := by simpa using hA
  have e1 := emod_nat c k
  have hr1 := Nat.mod_lt c (show k > 0 by omega)
  have e2 : (1 : Int) + ((c % k : Nat) : Int) = ((1 + c % k : Nat) : Int) := by omega
  have hc := hA2 c (by simp)
  have hmd : madeD (c :: B) k m = (B.take (1 + c % k)).map fun x => ((1 + x % m : Nat) : Int) := rfl
  have h0 : (lof u8P (c :: B)).getD 0 default = u8P c := rfl
  have hd1 : (lof u8P (c :: B)).drop 1 = lof u8P B := rfl
  rw [hmd]
  have hnl : (B.take (1 + c % k)).length = 1 + c % k := by simp only [List.length_take]; omega
  simp only [go_sem, ↓reduceIte, Nat.reduceLT, Nat.reduceLeDiff, Nat.reduceEqDiff, Nat.reduceAdd, Nat.reduceSub, Nat.reduceDiv, Nat.reduceMod, Nat.reduceMul, Nat.reduceBEq, Nat.reduceBNe, reduceCtorEq, Int.reduceLT, Int.reduceLE, Int.reduceEq, Int.reduceNe, Int.reduceBEq, Int.reduceBNe, Int.reduceAdd, Int.reduceSub, Int.reduceNeg, Int.reduceToNat, u8s_one, lof_length, List.length_cons, hB, h0, e1, e2, hd1, lof_take, hnl]
  generalize hn : 1 + c % k = n at *
  refine ⟨by rw [InK_i64]; omega, by omega, by rw [InK_i64]; omega, by omega, ?_⟩
  refine vfor [2,7,17,18,19] [7] [.nilS 7 3 1] n (fun _ => True) (fun j => ⟨[(2,.p (natP m)),(7,.sl 7),(17,.p (.list .any 1 (lof u8P (B.take n)))),(18,.p (natP n)),(19,.p (natP j))], [(7,.vec 3 1 (lof intP (((B.take n).map fun x => ((1 + x % m : Nat) : Int)).take j)))]⟩) (by first | rfl | (simp only [go_sem, ↓reduceIte, Nat.reduceLT, Nat.reduceLeDiff, Nat.reduceEqDiff, Nat.reduceAdd, Nat.reduceSub, Nat.reduceDiv, Nat.reduceMod, Nat.reduceMul, Nat.reduceBEq, Nat.reduceBNe, reduceCtorEq, Int.reduceLT, Int.reduceLE, Int.reduceEq, Int.reduceNe, Int.reduceBEq, Int.reduceBNe, Int.reduceAdd, Int.reduceSub, Int.reduceNeg, Int.reduceToNat, List.take_zero]; first | done | rfl)) trivial ?_
  intro j hj _
  by_cases hlt : j < n
  · obtain ⟨x, hx⟩ := get_some (show j < (B.take n).length by omega)
    have hx2 := hA2 x (List.mem_cons_of_mem _ (List.mem_of_mem_take (List.mem_of_getElem? hx)))
    have e3 := emod_nat x m
    have hr2 := Nat.mod_lt x (show m > 0 by omega)
    have e4 : (1 : Int) + ((x % m : Nat) : Int) = ((1 + x % m : Nat) : Int) := by omega
    have hts : ((B.take n).map fun x => ((1 + x % m : Nat) : Int)).take (j + 1) = ((B.take n).map fun x => ((1 + x % m : Nat) : Int)).take j ++ [((1 + x % m : Nat) : Int)] := take_succ_of (by rw [List.getElem?_map, hx]; rfl)
    have hlen : (((B.take n).map fun x => ((1 + x % m : Nat) : Int)).take j).length ≤ 4294967295 := by simp only [List.length_take, List.length_map]; omega
    simp only [go_sem, ↓reduceIte, Nat.reduceLT, Nat.reduceLeDiff, Nat.reduceEqDiff, Nat.reduceAdd, Nat.reduceSub, Nat.reduceDiv, Nat.reduceMod, Nat.reduceMul, Nat.reduceBEq, Nat.reduceBNe, reduceCtorEq, Int.reduceLT, Int.reduceLE, Int.reduceEq, Int.reduceNe, Int.reduceBEq, Int.reduceBNe, Int.reduceAdd, Int.reduceSub, Int.reduceNeg, Int.reduceToNat, hlt, lof_getD hx, hnl, e3, e4, lof_snoc_int]
    rw [hts]
    (repeat with_reducible refine And.intro (by (repeat' with_reducible refine And.intro ?_ ?_) <;> first | with_reducible assumption | omega | (simp only [InK_i64, InK_u64, InK_u8]; omega) | (unfold sz; omega) | exact True.intro) ?_)
    first | rfl | exact ⟨trivial, rfl⟩
  · obtain rfl : j = n := by omega
    have hta : ((B.take j).map fun x => ((1 + x % m : Nat) : Int)).take j = (B.take j).map fun x => ((1 + x % m : Nat) : Int) := List.take_of_length_le (by simp; omega)
    rw [hta]
    simp only [go_sem, ↓reduceIte, Nat.reduceLT, Nat.reduceLeDiff, Nat.reduceEqDiff, Nat.reduceAdd, Nat.reduceSub, Nat.reduceDiv, Nat.reduceMod, Nat.reduceMul, Nat.reduceBEq, Nat.reduceBNe, reduceCtorEq, Int.reduceLT, Int.reduceLE, Int.reduceEq, Int.reduceNe, Int.reduceBEq, Int.reduceBNe, Int.reduceAdd, Int.reduceSub, Int.reduceNeg, Int.reduceToNat, hlt]
noncomputable def tab_madeV5 : Tab := tabR (fun p : (List Nat) × (Nat) × (Nat) => match p with | (A, k, m) => [.agg (lof u8P A), natP k, natP m]) (fun p : (List Nat) × (Nat) × (Nat) => match p with | (A, k, m) => U8s 9 A ∧ 1 ≤ k ∧ k ≤ 8 ∧ 1 ≤ m ∧ m ≤ 100) (fun p : (List Nat) × (Nat) × (Nat) => match p with | (A, k, m) => .vec 3 1 (lof intP (madeD A k m)))
theorem tab_madeV5_eq (A : List Nat) (k : Nat) (m : Nat) : tab_madeV5 [.agg (lof u8P A), natP k, natP m] = some (U8s 9 A ∧ 1 ≤ k ∧ k ≤ 8 ∧ 1 ≤ m ∧ m ≤ 100, .vec 3 1 (lof intP (madeD A k m))) := tabR_eq (enc := fun p : (List Nat) × (Nat) × (Nat) => match p with | (A, k, m) => [.agg (lof u8P A), natP k, natP m]) (pre := fun p : (List Nat) × (Nat) × (Nat) => match p with | (A, k, m) => U8s 9 A ∧ 1 ≤ k ∧ k ≤ 8 ∧ 1 ≤ m ∧ m ≤ 100) (out := fun p : (List Nat) × (Nat) × (Nat) => match p with | (A, k, m) => .vec 3 1 (lof intP (madeD A k m))) (by rintro ⟨A, k, m⟩ ⟨A', k', m'⟩ h; simp at h; first | (simp [h]; done) | omega | (simp [h]; omega)) (A, k, m)
theorem tab_madeV5_ok : TabOK Try.prog 45 tab_madeV5 := tabR_ok (by rintro ⟨A, k, m⟩ h; exact madeV5_spec A k m h)
noncomputable abbrev ent_madeV5 : FuncId × List Nat × Tab := (45, [], tab_madeV5)
attribute [go_sem] tab_madeV5_eq
theorem sum5_spec (l : List Int) (hpre : l.length ≤ 1000 ∧ ∀ x ∈ l, 0 ≤ x ∧ x ≤ 1000000) : Ret Try.prog 61 [ints l] (intP l.sum) := by
  refine fn_of (T := []) (N := 17) (RO := []) (CH := []) (KS := [0, 2, 3, 5, 6, 7, 8, 9]) (NS := []) (fun args w => Try.call61 args w) Try.func61 rfl rfl (by simp) mixed (by kernel_rfl) trivial ?_
  simp only [go_sem, ↓reduceIte, Nat.reduceLT, Nat.reduceLeDiff, Nat.reduceEqDiff, Nat.reduceAdd, Nat.reduceSub, Nat.reduceDiv, Nat.reduceMod, Nat.reduceMul, Nat.reduceBEq, Nat.reduceBNe, reduceCtorEq, Int.reduceLT, Int.reduceLE, Int.reduceEq, Int.reduceNe, Int.reduceBEq, Int.reduceBNe, Int.reduceAdd, Int.reduceSub, Int.reduceNeg, Int.reduceToNat]
  obtain ⟨hl, hb⟩ := hpre
  have hbd : ∀ j, j ≤ l.length → 0 ≤ (l.take j).sum ∧ (l.take j).sum ≤ 1000000 * j := by
    intro j
    induction j with
    | zero => intro _; simp
    | succ j ih =>
      intro hj
      obtain ⟨x, hx⟩ := get_some (show j < l.length by omega)
      have := hb x (List.mem_of_getElem? hx)
      rw [take_succ_of hx, List.sum_append]
      have := ih (by omega)
      simp only [List.sum_cons, List.sum_nil]; omega
  refine vfor [3,6,7,8] [] [] l.length (fun _ => True) (fun j => ⟨[(3,.p (intP (l.take j).sum)),(6,.p (ints l)),(7,.p (natP l.length)),(8,.p (natP j))], []⟩) (by first | rfl | (simp only [go_sem, ↓reduceIte, Nat.reduceLT, Nat.reduceLeDiff, Nat.reduceEqDiff, Nat.reduceAdd, Nat.reduceSub, Nat.reduceDiv, Nat.reduceMod, Nat.reduceMul, Nat.reduceBEq, Nat.reduceBNe, reduceCtorEq, Int.reduceLT, Int.reduceLE, Int.reduceEq, Int.reduceNe, Int.reduceBEq, Int.reduceBNe, Int.reduceAdd, Int.reduceSub, Int.reduceNeg, Int.reduceToNat, List.take_zero, List.sum_nil]; first | done | rfl)) trivial ?_
  intro j hj _
  by_cases hlt : j < l.length
  · obtain ⟨x, hx⟩ := get_some hlt
    have h1 := hbd (j + 1) (by omega)
    rw [take_succ_of hx, List.sum_append] at h1
    have e : (l.take (j + 1)).sum = (l.take j).sum + x := by rw [take_succ_of hx, List.sum_append]; simp
    simp only [go_sem, ↓reduceIte, Nat.reduceLT, Nat.reduceLeDiff, Nat.reduceEqDiff, Nat.reduceAdd, Nat.reduceSub, Nat.reduceDiv, Nat.reduceMod, Nat.reduceMul, Nat.reduceBEq, Nat.reduceBNe, reduceCtorEq, Int.reduceLT, Int.reduceLE, Int.reduceEq, Int.reduceNe, Int.reduceBEq, Int.reduceBNe, Int.reduceAdd, Int.reduceSub, Int.reduceNeg, Int.reduceToNat, hlt, lof_getD hx]
    rw [e]
    simp only [List.sum_cons, List.sum_nil, Int.add_zero] at h1
    (repeat with_reducible refine And.intro (by (repeat' with_reducible refine And.intro ?_ ?_) <;> first | with_reducible assumption | omega | (simp only [InK_i64, InK_u64, InK_u8]; omega) | (unfold sz; omega) | exact True.intro) ?_)
    first | rfl | exact ⟨trivial, rfl⟩
  · obtain rfl : j = l.length := by omega
    rw [List.take_length]
    simp only [go_sem, ↓reduceIte, Nat.reduceLT, Nat.reduceLeDiff, Nat.reduceEqDiff, Nat.reduceAdd, Nat.reduceSub, Nat.reduceDiv, Nat.reduceMod, Nat.reduceMul, Nat.reduceBEq, Nat.reduceBNe, reduceCtorEq, Int.reduceLT, Int.reduceLE, Int.reduceEq, Int.reduceNe, Int.reduceBEq, Int.reduceBNe, Int.reduceAdd, Int.reduceSub, Int.reduceNeg, Int.reduceToNat, hlt]
    exact ex_le_refl rfl
noncomputable def tab_sum5 : Tab := tabOf (fun p : (List Int) => match p with | l => [ints l]) (fun p : (List Int) => match p with | l => l.length ≤ 1000 ∧ ∀ x ∈ l, 0 ≤ x ∧ x ≤ 1000000) (fun p : (List Int) => match p with | l => intP l.sum)
theorem tab_sum5_eq (l : List Int) : tab_sum5 [ints l] = some (l.length ≤ 1000 ∧ ∀ x ∈ l, 0 ≤ x ∧ x ≤ 1000000, .p (intP l.sum)) := tabOf_eq (enc := fun p : (List Int) => match p with | l => [ints l]) (pre := fun p : (List Int) => match p with | l => l.length ≤ 1000 ∧ ∀ x ∈ l, 0 ≤ x ∧ x ≤ 1000000) (out := fun p : (List Int) => match p with | l => intP l.sum) (by rintro l l' h; simp at h; first | (simp [h]; done) | omega | (simp [h]; omega)) (l)
theorem tab_sum5_ok : TabOK Try.prog 61 tab_sum5 := tabOf_ok (by rintro l h; exact sum5_spec l h)
noncomputable abbrev ent_sum5 : FuncId × List Nat × Tab := (61, [1], tab_sum5)
attribute [go_sem] tab_sum5_eq
end Go.V
