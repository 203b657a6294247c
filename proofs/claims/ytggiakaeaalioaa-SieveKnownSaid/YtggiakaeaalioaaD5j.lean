/-
  Contracts of the program of chapter 05: questions. Conditions: none.
-/
import Derived.Test.YtggiakaeaalioaaD5i
set_option linter.unusedVariables false
set_option linter.unusedSimpArgs false
set_option linter.deprecated false
namespace Go.V
open Go.Proofs
set_option maxRecDepth 10000
set_option maxHeartbeats 2000000

def questE (L Tr : List Int) : Int := if checkL L = 0 then validE L.length Tr else checkL L
def questV (L Tr : List Int) : Int := if checkL L = 0 then R5.dot L (depthsV L.length Tr) else 0
theorem depthsV_bd (n : Nat) (h : n ≤ 8) (Tr : List Int) : (depthsV n Tr).length ≤ n ∧ ∀ y ∈ depthsV n Tr, 0 ≤ y ∧ y ≤ 8 := by
  unfold depthsV
  split
  · rename_i hv
    obtain ⟨m, hm, h1, h8, hvb⟩ := validE_zero.1 hv
    have hm : m = n := by omega
    subst hm
    obtain ⟨hk, _⟩ := valid_tree h1 hvb
    rw [Int.toNat_natCast]
    refine ⟨by rw [R5.T.dep_length, hk]; omega, fun y hy => ?_⟩
    have := R5.T.dep_bd _ y hy
    omega
  · simp
theorem Quest5_spec (L : List Int) (Tr : List Int) (hpre : sz L.length ∧ Tr.length ≤ 65536) : Ret Try.prog 41 [ints L, ints Tr] (.tuple [intP (questV L Tr), errP (questE L Tr)]) := by
  refine fn_of (T := [ent_check5, ent_Depths5]) (N := 42) (RO := []) (CH := []) (KS := [0, 1, 4, 5, 6, 7, 8, 9, 10, 11, 15, 24, 25, 26, 27]) (NS := []) (fun args w => Try.call41 args w) Try.func41 rfl rfl (by simp) mixed (by kernel_rfl) ⟨tab_check5_ok, tab_Depths5_ok, trivial⟩ ?_
  simp only [go_sem, ↓reduceIte, Nat.reduceLT, Nat.reduceLeDiff, Nat.reduceEqDiff, Nat.reduceAdd, Nat.reduceSub, Nat.reduceDiv, Nat.reduceMod, Nat.reduceMul, Nat.reduceBEq, Nat.reduceBNe, reduceCtorEq, Int.reduceLT, Int.reduceLE, Int.reduceEq, Int.reduceNe, Int.reduceBEq, Int.reduceBNe, Int.reduceAdd, Int.reduceSub, Int.reduceNeg, Int.reduceToNat]
  refine ⟨hpre.1, ?_⟩
  unfold questV questE
  by_cases h : checkL L = 0
  · have hL := loads_ok h
    obtain ⟨hb1, hb2⟩ := depthsV_bd L.length hL.hi Tr
    have h8 := hL.hi
    rw [if_pos h, if_pos h]
    simp only [go_sem, ↓reduceIte, Nat.reduceLT, Nat.reduceLeDiff, Nat.reduceEqDiff, Nat.reduceAdd, Nat.reduceSub, Nat.reduceDiv, Nat.reduceMod, Nat.reduceMul, Nat.reduceBEq, Nat.reduceBNe, reduceCtorEq, Int.reduceLT, Int.reduceLE, Int.reduceEq, Int.reduceNe, Int.reduceBEq, Int.reduceBNe, Int.reduceAdd, Int.reduceSub, Int.reduceNeg, Int.reduceToNat, h, bne_self_eq_false]
    (repeat with_reducible refine And.intro (by (repeat' with_reducible refine And.intro ?_ ?_) <;> first | with_reducible assumption | omega | (rw [InK_i64]; omega) | (rw [InK_u64]; omega) | (rw [InK_u8]; omega) | (unfold sz; omega) | exact True.intro) ?_)
    generalize depthsV L.length Tr = D at *
    generalize validE L.length Tr = ve at *
    refine vfor [0,7,8,9,24,25,26] [] [] D.length (fun _ => True) (fun i => ⟨[(0,.p (ints L)),(7,.p (ints D)),(8,.p (errP ve)),(9,.p (intP (R5.dot (L.take i) (D.take i)))),(24,.p (ints D)),(25,.p (natP D.length)),(26,.p (natP i))], []⟩) (by first | rfl | (simp only [go_sem, ↓reduceIte, Nat.reduceLT, Nat.reduceLeDiff, Nat.reduceEqDiff, Nat.reduceAdd, Nat.reduceSub, Nat.reduceDiv, Nat.reduceMod, Nat.reduceMul, Nat.reduceBEq, Nat.reduceBNe, reduceCtorEq, Int.reduceLT, Int.reduceLE, Int.reduceEq, Int.reduceNe, Int.reduceBEq, Int.reduceBNe, Int.reduceAdd, Int.reduceSub, Int.reduceNeg, Int.reduceToNat, List.take_zero, R5.dot]; first | done | rfl)) trivial ?_
    intro i hi _
    have hdb2 := dot_bd (L.take i) (D.take i) (fun x hx => by have := hL.ld x (List.mem_of_mem_take hx); omega) (fun y hy => hb2 y (List.mem_of_mem_take hy))
    have htl : (L.take i).length ≤ 8 := by simp; omega
    by_cases hlt : i < D.length
    · obtain ⟨y, hy⟩ := get_some hlt
      obtain ⟨x, hx⟩ := get_some (show i < L.length by omega)
      have hs := dot_snoc hx hy
      have hxb := hL.ld x (List.mem_of_getElem? hx)
      have hyb := hb2 y (List.mem_of_getElem? hy)
      have hm := mul_bd (x := x) (y := y) (by omega) (by omega)
      simp only [go_sem, ↓reduceIte, Nat.reduceLT, Nat.reduceLeDiff, Nat.reduceEqDiff, Nat.reduceAdd, Nat.reduceSub, Nat.reduceDiv, Nat.reduceMod, Nat.reduceMul, Nat.reduceBEq, Nat.reduceBNe, reduceCtorEq, Int.reduceLT, Int.reduceLE, Int.reduceEq, Int.reduceNe, Int.reduceBEq, Int.reduceBNe, Int.reduceAdd, Int.reduceSub, Int.reduceNeg, Int.reduceToNat, hlt, lof_getD hx, lof_getD hy, show i < L.length by omega]
      rw [hs]
      generalize x * y = xy at *
      (repeat' (first | (rw [InK_i64]; omega) | (rw [InK_u8]; omega) | (rw [InK_u64]; omega) | omega | rfl | apply And.intro))
    · simp only [go_sem, ↓reduceIte, Nat.reduceLT, Nat.reduceLeDiff, Nat.reduceEqDiff, Nat.reduceAdd, Nat.reduceSub, Nat.reduceDiv, Nat.reduceMod, Nat.reduceMul, Nat.reduceBEq, Nat.reduceBNe, reduceCtorEq, Int.reduceLT, Int.reduceLE, Int.reduceEq, Int.reduceNe, Int.reduceBEq, Int.reduceBNe, Int.reduceAdd, Int.reduceSub, Int.reduceNeg, Int.reduceToNat, hlt]
      obtain rfl : i = D.length := by omega
      rw [List.take_length]
      have e1 : R5.dot (L.take D.length) D = R5.dot L D := by
        have h := R5.dot_append (L.take D.length) (L.drop D.length) D [] (by simp; omega)
        rw [List.take_append_drop, List.append_nil] at h
        rw [h]
        cases L.drop D.length <;> simp [R5.dot]
      rw [e1]
      exact ex_le_refl rfl
  · have hn : (checkL L != 0) = true := by simp [h]
    rw [if_neg h, if_neg h]
    simp only [go_sem, ↓reduceIte, Nat.reduceLT, Nat.reduceLeDiff, Nat.reduceEqDiff, Nat.reduceAdd, Nat.reduceSub, Nat.reduceDiv, Nat.reduceMod, Nat.reduceMul, Nat.reduceBEq, Nat.reduceBNe, reduceCtorEq, Int.reduceLT, Int.reduceLE, Int.reduceEq, Int.reduceNe, Int.reduceBEq, Int.reduceBNe, Int.reduceAdd, Int.reduceSub, Int.reduceNeg, Int.reduceToNat, hn]
    exact ex_le_refl rfl
noncomputable def tab_Quest5 : Tab := tabOf (fun p : (List Int) × (List Int) => match p with | (L, Tr) => [ints L, ints Tr]) (fun p : (List Int) × (List Int) => match p with | (L, Tr) => sz L.length ∧ Tr.length ≤ 65536) (fun p : (List Int) × (List Int) => match p with | (L, Tr) => .tuple [intP (questV L Tr), errP (questE L Tr)])
theorem tab_Quest5_eq (L : List Int) (Tr : List Int) : tab_Quest5 [ints L, ints Tr] = some (sz L.length ∧ Tr.length ≤ 65536, .p (.tuple [intP (questV L Tr), errP (questE L Tr)])) := tabOf_eq (enc := fun p : (List Int) × (List Int) => match p with | (L, Tr) => [ints L, ints Tr]) (pre := fun p : (List Int) × (List Int) => match p with | (L, Tr) => sz L.length ∧ Tr.length ≤ 65536) (out := fun p : (List Int) × (List Int) => match p with | (L, Tr) => .tuple [intP (questV L Tr), errP (questE L Tr)]) (by rintro ⟨L, Tr⟩ ⟨L', Tr'⟩ h; simp at h; first | (simp [h]; done) | omega | (simp [h]; omega)) (L, Tr)
theorem tab_Quest5_ok : TabOK Try.prog 41 tab_Quest5 := tabOf_ok (by rintro ⟨L, Tr⟩ h; exact Quest5_spec L Tr h)
noncomputable abbrev ent_Quest5 : FuncId × List Nat × Tab := (41, [1,1], tab_Quest5)
attribute [go_sem] tab_Quest5_eq
end Go.V
