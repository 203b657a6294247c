/-
  What is drawn for the tops: small numbers, orders. Conditions: none.
-/
import Derived.Test.YtaphkenfcnocbaaDoorD2a
import Derived.Test.YtaphkenfcnocbaaDoorA2b
import Derived.Test.YtaphkenfcnocbaaDoorVRev
import Derived.Test.YtaphkenfcnocbaaDoorRndLy
import Derived.Test.YtaphkenfcnocbaaDoorP2j
set_option linter.unusedVariables false
set_option linter.unusedSimpArgs false
set_option linter.deprecated false
namespace Go.V
open Go.Proofs
set_option maxRecDepth 100000
set_option maxHeartbeats 4000000

@[simp] theorem lof_u8P_inj {l l' : List Nat} : lof u8P l = lof u8P l' ↔ l = l' := lof_inj (by intro a b h; simp at h; omega)
theorem u8s_one (A : List Nat) : (List.map AV.p (lof u8P A)).all AV.one = true := by
  rw [List.all_eq_true]
  intro x hx
  simp only [lof, List.map_map, List.mem_map, Function.comp] at hx
  obtain ⟨a, _, rfl⟩ := hx
  rfl
theorem emod_nat (a b : Nat) : (a : Int) % (b : Int) = ((a % b : Nat) : Int) := (Int.natCast_emod a b).symm
theorem get_u8 {A : List Nat} {i : Nat} (hi : i < A.length) : A[i]? = some (A.getD i 0) := by
  rw [List.getD_eq_getElem?_getD, List.getElem?_eq_getElem hi]; rfl
theorem u8s_norm (A : List Nat) (k : Nat) : List.map (norm0 k) (lof u8P A) = lof u8P A := by
  simp only [lof, List.map_map]
  apply List.map_congr_left
  intro a _; rfl
theorem u8s_take {A : List Nat} {n : Nat} (h : A.length = n) : List.take n (lof u8P A) = lof u8P A := List.take_of_length_le (by simp [lof, h])
theorem ofN_erase (l : List Nat) (k : Nat) (hk : k < l.length) : (ofN l).take k ++ (ofN l).drop (k + 1) = ofN (l.eraseIdx k) := by
  rw [List.eraseIdx_eq_take_drop_succ]
  simp [ofN, List.map_take, List.map_drop]
theorem ofN_snoc (l : List Nat) (x : Nat) : lof intP (ofN l) ++ [natP x] = lof intP (ofN (l ++ [x])) := by simp [lof, ofN]
theorem u8_lt {n : Nat} {A : List Nat} (h : U8s n A) (i : Nat) : A.getD i 0 < 256 := by
  rw [List.getD_eq_getElem?_getD]
  cases hx : A[i]? with
  | none => simp
  | some x => exact h.lt x (List.mem_of_getElem? hx)

theorem order_spec (n : Nat) (B : List Nat) (hpre : n ≤ 8 ∧ U8s 8 B) : Ret Tryd.prog 18 [natP n, .agg (lof u8P B)] (ints (ofN (R2.permK n B n).2)) := by
  obtain ⟨hn, hB⟩ := hpre
  have hB8 := hB.len
  refine fn_of (T := []) (N := 45) (RO := [3, 16, 36]) (CH := []) (KS := [0, 1, 3, 4, 5, 6, 7, 8, 9, 10, 11, 12, 19, 20, 21]) (NS := [4, 5, 6, 17, 37, 42]) (fun args w => Tryd.call18 args w) Tryd.func18 rfl rfl (by simp) mixed (by kernel_rfl) trivial ?_
  simp only [go_sem, ↓reduceIte, Nat.reduceLT, Nat.reduceLeDiff, Nat.reduceEqDiff, Nat.reduceAdd, Nat.reduceSub, Nat.reduceDiv, Nat.reduceMod, Nat.reduceMul, Nat.reduceBEq, Nat.reduceBNe, reduceCtorEq, Int.reduceLT, Int.reduceLE, Int.reduceEq, Int.reduceNe, Int.reduceBEq, Int.reduceBNe, Int.reduceAdd, Int.reduceSub, Int.reduceNeg, Int.reduceToNat, u8s_one]
  refine vfor [0,3,5,6,10,11] [5] [.nilS 5 3 1] n (fun _ => True) (fun k => ⟨[(0,.p (natP n)),(3,.p (.ref (lof u8P B) 0)),(5,.sl 5),(6,.p (.val (.slice none 0 0))),(10,.p (natP n)),(11,.p (natP k))], [(5,.vec 3 1 (lof intP (ofN (List.range k))))]⟩) (by first | rfl | (simp only [go_sem, ↓reduceIte, Nat.reduceLT, Nat.reduceLeDiff, Nat.reduceEqDiff, Nat.reduceAdd, Nat.reduceSub, Nat.reduceDiv, Nat.reduceMod, Nat.reduceMul, Nat.reduceBEq, Nat.reduceBNe, reduceCtorEq, Int.reduceLT, Int.reduceLE, Int.reduceEq, Int.reduceNe, Int.reduceBEq, Int.reduceBNe, Int.reduceAdd, Int.reduceSub, Int.reduceNeg, Int.reduceToNat]; first | done | rfl)) trivial ?_
  intro k hk _
  have hrn : (List.range k).length = k := List.length_range
  by_cases hlt : k < n
  · simp only [go_sem, ↓reduceIte, Nat.reduceLT, Nat.reduceLeDiff, Nat.reduceEqDiff, Nat.reduceAdd, Nat.reduceSub, Nat.reduceDiv, Nat.reduceMod, Nat.reduceMul, Nat.reduceBEq, Nat.reduceBNe, reduceCtorEq, Int.reduceLT, Int.reduceLE, Int.reduceEq, Int.reduceNe, Int.reduceBEq, Int.reduceBNe, Int.reduceAdd, Int.reduceSub, Int.reduceNeg, Int.reduceToNat, hlt]
    rw [ofN_snoc, ← List.range_succ]
    exact ⟨by rw [hrn]; omega, by rw [InK_i64]; omega, rfl⟩
  · obtain rfl : k = n := by omega
    simp only [go_sem, ↓reduceIte, Nat.reduceLT, Nat.reduceLeDiff, Nat.reduceEqDiff, Nat.reduceAdd, Nat.reduceSub, Nat.reduceDiv, Nat.reduceMod, Nat.reduceMul, Nat.reduceBEq, Nat.reduceBNe, reduceCtorEq, Int.reduceLT, Int.reduceLE, Int.reduceEq, Int.reduceNe, Int.reduceBEq, Int.reduceBNe, Int.reduceAdd, Int.reduceSub, Int.reduceNeg, Int.reduceToNat, Nat.lt_irrefl, Int.lt_irrefl]
    have hp0 : R2.permK k B 0 = (List.range k, []) := rfl
    refine vfor [0,3,5,6,19,20] [5,6] [.nilS 6 3 1] k (fun _ => True) (fun j => ⟨[(0,.p (natP k)),(3,.p (.ref (lof u8P B) 0)),(5,.sl 5),(6,.sl 6),(19,.p (natP k)),(20,.p (natP j))], [(5,.vec 3 1 (lof intP (ofN (R2.permK k B j).1))),(6,.vec 3 1 (lof intP (ofN (R2.permK k B j).2)))]⟩) (by first | rfl | (simp only [go_sem, ↓reduceIte, Nat.reduceLT, Nat.reduceLeDiff, Nat.reduceEqDiff, Nat.reduceAdd, Nat.reduceSub, Nat.reduceDiv, Nat.reduceMod, Nat.reduceMul, Nat.reduceBEq, Nat.reduceBNe, reduceCtorEq, Int.reduceLT, Int.reduceLE, Int.reduceEq, Int.reduceNe, Int.reduceBEq, Int.reduceBNe, Int.reduceAdd, Int.reduceSub, Int.reduceNeg, Int.reduceToNat, hp0]; first | done | rfl)) trivial ?_
    intro j hj _
    obtain ⟨v1, v2, v3⟩ := R2.permK_inv k B j hj (by omega)
    by_cases hjl : j < k
    · have hBj := get_u8 (show j < B.length by omega)
      have hs := R2.permK_succ (n := k) hBj
      have hbx := u8_lt hB j
      generalize B.getD j 0 = x at *
      unfold R2.stepP at hs
      generalize hl : (R2.permK k B j).1 = l at *
      generalize ht : (R2.permK k B j).2 = t at *
      have em2 := emod_nat x l.length
      have em3 : ((j : Int) % 8) = ((j : Nat) : Int) := by omega
      have hml := Nat.mod_lt x (show l.length > 0 by omega)
      obtain ⟨y, hy⟩ := get_some hml
      have hyd : l.getD (x % l.length) 0 = y := by rw [List.getD_eq_getElem?_getD, hy]; rfl
      rw [hyd] at hs
      have e8 : (lof u8P B).getD (j * 1) default = u8P x := by rw [Nat.mul_one]; exact lof_getD hBj
      simp only [go_sem, ↓reduceIte, Nat.reduceLT, Nat.reduceLeDiff, Nat.reduceEqDiff, Nat.reduceAdd, Nat.reduceSub, Nat.reduceDiv, Nat.reduceMod, Nat.reduceMul, Nat.reduceBEq, Nat.reduceBNe, reduceCtorEq, Int.reduceLT, Int.reduceLE, Int.reduceEq, Int.reduceNe, Int.reduceBEq, Int.reduceBNe, Int.reduceAdd, Int.reduceSub, Int.reduceNeg, Int.reduceToNat, hjl, e8, em2, em3, lof_length, ofN_length, lof_getD (ofN_get hy), Int.toNat_natCast]
      refine ⟨by omega, by omega, by rw [InK_i64]; omega, by omega, hml, hml, by omega, by rw [InK_i64]; omega, ?_⟩
      have e9 : ((x % l.length : Nat) : Int) + 1 = ((x % l.length + 1 : Nat) : Int) := by omega
      rw [e9]
      have hlne : ofN l ≠ [] := fun h => by
        have := congrArg List.length h
        rw [ofN_length] at this
        have this : l.length = 0 := this
        omega
      refine vcall_deleteI (i := x % l.length) (j := x % l.length + 1) (l := ofN l) Tryd.lays23 (fun args w => Tryd.call48 args w) (by simp only [go_sem, seval]; first | done | rfl) (by omega) (by rw [ofN_length]; omega) hlne (by rw [ofN_length]; omega) (by decide) (by simp only [go_sem, seval]; first | done | rfl) ?_
      simp only [go_sem, ↓reduceIte, Nat.reduceLT, Nat.reduceLeDiff, Nat.reduceEqDiff, Nat.reduceAdd, Nat.reduceSub, Nat.reduceDiv, Nat.reduceMod, Nat.reduceMul, Nat.reduceBEq, Nat.reduceBNe, reduceCtorEq, Int.reduceLT, Int.reduceLE, Int.reduceEq, Int.reduceNe, Int.reduceBEq, Int.reduceBNe, Int.reduceAdd, Int.reduceSub, Int.reduceNeg, Int.reduceToNat]
      refine ⟨by rw [InK_i64]; omega, hjl, ?_⟩
      rw [hs, ofN_erase l _ hml, ofN_snoc]
      rfl
    · obtain rfl : j = k := by omega
      simp only [go_sem, ↓reduceIte, Nat.reduceLT, Nat.reduceLeDiff, Nat.reduceEqDiff, Nat.reduceAdd, Nat.reduceSub, Nat.reduceDiv, Nat.reduceMod, Nat.reduceMul, Nat.reduceBEq, Nat.reduceBNe, reduceCtorEq, Int.reduceLT, Int.reduceLE, Int.reduceEq, Int.reduceNe, Int.reduceBEq, Int.reduceBNe, Int.reduceAdd, Int.reduceSub, Int.reduceNeg, Int.reduceToNat, Nat.lt_irrefl, Int.lt_irrefl]
      exact ⟨_, .refl _, rfl⟩
noncomputable def tab_order : Tab := tabOf (fun p : (Nat) × (List Nat) => match p with | (n, B) => [natP n, .agg (lof u8P B)]) (fun p : (Nat) × (List Nat) => match p with | (n, B) => n ≤ 8 ∧ U8s 8 B) (fun p : (Nat) × (List Nat) => match p with | (n, B) => ints (ofN (R2.permK n B n).2))
theorem tab_order_eq (n : Nat) (B : List Nat) : tab_order [natP n, .agg (lof u8P B)] = some (n ≤ 8 ∧ U8s 8 B, .p (ints (ofN (R2.permK n B n).2))) := tabOf_eq (enc := fun p : (Nat) × (List Nat) => match p with | (n, B) => [natP n, .agg (lof u8P B)]) (pre := fun p : (Nat) × (List Nat) => match p with | (n, B) => n ≤ 8 ∧ U8s 8 B) (out := fun p : (Nat) × (List Nat) => match p with | (n, B) => ints (ofN (R2.permK n B n).2)) (by rintro ⟨n, B⟩ ⟨n', B'⟩ h; simp at h; first | (simp [h]; done) | omega | (simp [h]; omega)) (n, B)
theorem tab_order_ok : TabOK Tryd.prog 18 tab_order := tabOf_ok (by rintro ⟨n, B⟩ h; exact order_spec n B h)
noncomputable abbrev ent_order : FuncId × List Nat × Tab := (18, [0, 0], tab_order)
attribute [go_sem] tab_order_eq
end Go.V
