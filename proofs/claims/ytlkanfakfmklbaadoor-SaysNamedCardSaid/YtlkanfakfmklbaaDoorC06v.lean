/-
  Contract of the program's shortest steps. Conditions: none.
  Contracts of the law's small functions. Conditions: none.
-/
import Derived.Test.YtlkanfakfmklbaaDoorC06u
import Derived.Test.YtlkanfakfmklbaaDoorP6v
set_option linter.unusedVariables false
set_option linter.unusedSimpArgs false
set_option linter.deprecated false
namespace Go.V
open Go.Proofs
set_option maxRecDepth 10000
set_option maxHeartbeats 1000000

abbrev wayP (w : R6.Way) : PV := .agg [u8P w.1, ints w.2]
@[go_sem] theorem ways_snoc (l : List R6.Way) (a : Nat) (s : List Int) : lof wayP l ++ [.agg [.val (.int .u8 (a : Int)), .list .any 1 (lof intP s)]] = lof wayP (l ++ [(a, s)]) := by simp [lof]

@[go_sem] theorem ways_norm (l : List R6.Way) : (lof wayP l).map (norm 1) = lof wayP l := by
  unfold lof; rw [List.map_map]; apply List.map_congr_left; intro w _; rfl
theorem shr8 {w j : Nat} (hw : w < 256) : bits .and .u8 ((w : Int) / 2 ^ j) 1 = ((w / 2 ^ j &&& 1 : Nat) : Int) := by
  rw [show ((w : Int) / 2 ^ j) = ((w / 2 ^ j : Nat) : Int) by simp]
  exact bits_and8 (Nat.lt_of_le_of_lt (Nat.div_le_self _ _) hw) (by decide)
theorem cast_beq_one (n : Nat) : ((n : Int) == 1) = (n == 1) := by rw [Bool.eq_iff_iff]; simp; omega
theorem Steps6s_spec (n : Int) (l : List (List Int × List Int)) (set : List Int) (fact : Int) (hpre : BkOK l ∧ sz set.length) : Ret Tryd.prog 38 [bookP n l, ints set, intP fact] (.tuple [ints (R6.stepsM n l set fact).1, errP (R6.stepsM n l set fact).2]) := by
  refine fn_of (T := [ent_asked6s, ent_sub8, ent_containsF, ent_clone]) (N := 103) (RO := [3, 8, 14, 16, 89, 97, 100]) (CH := []) (KS := [0, 1, 2, 3, 6, 7, 8, 9, 10, 11, 12, 13, 14, 15, 16, 17, 25, 29, 46, 58, 62, 63, 64, 65, 86]) (NS := [11, 12, 40, 42, 90, 95, 98, 101]) (fun args w => Tryd.call38 args w) Tryd.func38 rfl rfl (by simp) mixed (by kernel_rfl) ⟨tab_asked6s_ok, tab_sub8_ok, tab_containsF_ok, tab_clone_ok, trivial⟩ ?_
  simp only [go_sem, ↓reduceIte, Nat.reduceLT, Nat.reduceLeDiff, Nat.reduceEqDiff, Nat.reduceAdd, Nat.reduceSub, Nat.reduceDiv, Nat.reduceMod, Nat.reduceMul, Nat.reduceBEq, Nat.reduceBNe, reduceCtorEq, Int.reduceLT, Int.reduceLE, Int.reduceEq, Int.reduceNe, Int.reduceBEq, Int.reduceBNe, Int.reduceAdd, Int.reduceSub, Int.reduceNeg, Int.reduceToNat]
  refine ⟨hpre, ?_⟩
  have hlt := R6.askedM_lt n l set
  by_cases h : R6.asked n l set = 0
  · have hn := R6.asked_range h
    have hk : R6.KnOK (R6.openedM n l).2 := by rw [R6.openedM_ok (R6.asked_check h)]; exact R6.knU_OK (R6.asked_check h)
    by_cases h1 : fact < 0
    · simp only [go_sem, ↓reduceIte, Nat.reduceLT, Nat.reduceLeDiff, Nat.reduceEqDiff, Nat.reduceAdd, Nat.reduceSub, Nat.reduceDiv, Nat.reduceMod, Nat.reduceMul, Nat.reduceBEq, Nat.reduceBNe, reduceCtorEq, Int.reduceLT, Int.reduceLE, Int.reduceEq, Int.reduceNe, Int.reduceBEq, Int.reduceBNe, Int.reduceAdd, Int.reduceSub, Int.reduceNeg, Int.reduceToNat, h, h1]
      refine ex_le ?_
      rw [show R6.stepsM n l set fact = ([], 2) by simp [R6.stepsM, h, h1]]
      (repeat' (first | exact Le.refl _ | exact Le.nilS _ _ | exact Le.tight | refine Le.tuple ?_ | refine Le.list ?_ | refine Le.agg ?_ | refine LeL.cons ?_ ?_ | exact LeL.nil))
    · by_cases h2 : n ≤ fact
      · simp only [go_sem, ↓reduceIte, Nat.reduceLT, Nat.reduceLeDiff, Nat.reduceEqDiff, Nat.reduceAdd, Nat.reduceSub, Nat.reduceDiv, Nat.reduceMod, Nat.reduceMul, Nat.reduceBEq, Nat.reduceBNe, reduceCtorEq, Int.reduceLT, Int.reduceLE, Int.reduceEq, Int.reduceNe, Int.reduceBEq, Int.reduceBNe, Int.reduceAdd, Int.reduceSub, Int.reduceNeg, Int.reduceToNat, h, h1, h2]
        refine ex_le ?_
        rw [show R6.stepsM n l set fact = ([], 2) by simp [R6.stepsM, h, h2]]
        (repeat' (first | exact Le.refl _ | exact Le.nilS _ _ | exact Le.tight | refine Le.tuple ?_ | refine Le.list ?_ | refine Le.agg ?_ | refine LeL.cons ?_ ?_ | exact LeL.nil))
      · obtain ⟨j, rfl⟩ : ∃ j : Nat, fact = j := ⟨fact.toNat, by omega⟩
        have hM : R6.stepsM n l set j = R6.outS (R6.bfs (R6.openedM n l).2 j 300 0 [(R6.askedM n l set, [])]) := by simp [R6.stepsM, h, h2, h1]
        rw [hM]
        generalize (R6.openedM n l).2 = ks at *
        generalize (R6.openedM n l).1 = m at *
        generalize R6.askedM n l set = f at *
        simp only [go_sem, ↓reduceIte, Nat.reduceLT, Nat.reduceLeDiff, Nat.reduceEqDiff, Nat.reduceAdd, Nat.reduceSub, Nat.reduceDiv, Nat.reduceMod, Nat.reduceMul, Nat.reduceBEq, Nat.reduceBNe, reduceCtorEq, Int.reduceLT, Int.reduceLE, Int.reduceEq, Int.reduceNe, Int.reduceBEq, Int.reduceBNe, Int.reduceAdd, Int.reduceSub, Int.reduceNeg, Int.reduceToNat, h, h1, h2]
        refine vwhile [2,8,11,12,13] [11,12] [.nrm 11 1] (fun d : Nat × List R6.Way => d.1 ≤ d.2.length ∧ R6.Ways d.2 ∧ R6.bfs ks j 300 0 [(f, [])] = R6.bfs ks j (300 - d.1) d.1 d.2) (fun d => 300 - d.1)
          (fun d => ⟨[(2,.p (natP j)),(8,.p (.ref [u8P m, knsP ks] 0)),(11,.sl 11),(12,.sl 12),(13,.p (natP d.1))], [(11, .vec 107 2 (lof wayP d.2)), (12, .vec 66 1 (lof u8P (d.2.map (·.1))))]⟩) (0, [(f, [])]) (by first | rfl | (simp only [go_sem, ↓reduceIte, Nat.reduceLT, Nat.reduceLeDiff, Nat.reduceEqDiff, Nat.reduceAdd, Nat.reduceSub, Nat.reduceDiv, Nat.reduceMod, Nat.reduceMul, Nat.reduceBEq, Nat.reduceBNe, reduceCtorEq, Int.reduceLT, Int.reduceLE, Int.reduceEq, Int.reduceNe, Int.reduceBEq, Int.reduceBNe, Int.reduceAdd, Int.reduceSub, Int.reduceNeg, Int.reduceToNat]; first | done | rfl)) ⟨by simp, ⟨by simp; omega, by simp, by simp⟩, rfl⟩ ?_
        rintro ⟨k, todo⟩ ⟨hk1, hw, hI⟩
        simp only at hk1 hw hI
        have hlen := hw.length
        by_cases hkl : k < todo.length
        · obtain ⟨w, hx⟩ := get_some hkl
          have hwm := hw.lt w (List.mem_of_getElem? hx)
          have hwl := hw.len w (List.mem_of_getElem? hx)
          have hb : R6.bfs ks j (300 - k) k todo = if w.1.testBit j = true then some w.2 else R6.bfs ks j (300 - (k + 1)) (k + 1) (R6.bfsRow ks w todo ks.length) := by
            rw [show 300 - k = (300 - (k + 1)) + 1 by omega]; simp [R6.bfs, hx]
          rw [hb] at hI
          have hbt := R6.bit_test w.1 j
          by_cases ht : w.1.testBit j = true
          · rw [if_pos ht] at hI
            rw [ht] at hbt
            simp only [go_sem, ↓reduceIte, Nat.reduceLT, Nat.reduceLeDiff, Nat.reduceEqDiff, Nat.reduceAdd, Nat.reduceSub, Nat.reduceDiv, Nat.reduceMod, Nat.reduceMul, Nat.reduceBEq, Nat.reduceBNe, reduceCtorEq, Int.reduceLT, Int.reduceLE, Int.reduceEq, Int.reduceNe, Int.reduceBEq, Int.reduceBNe, Int.reduceAdd, Int.reduceSub, Int.reduceNeg, Int.reduceToNat, hkl, lof_getD hx, shr8 hwm, cast_beq_one, hbt]
            exact ⟨by omega, ex_le_refl (by rw [hI]; rfl)⟩
          · rw [if_neg ht] at hI
            rw [Bool.not_eq_true] at ht
            rw [ht] at hbt
            simp only [go_sem, ↓reduceIte, Nat.reduceLT, Nat.reduceLeDiff, Nat.reduceEqDiff, Nat.reduceAdd, Nat.reduceSub, Nat.reduceDiv, Nat.reduceMod, Nat.reduceMul, Nat.reduceBEq, Nat.reduceBNe, reduceCtorEq, Int.reduceLT, Int.reduceLE, Int.reduceEq, Int.reduceNe, Int.reduceBEq, Int.reduceBNe, Int.reduceAdd, Int.reduceSub, Int.reduceNeg, Int.reduceToNat, hkl, lof_getD hx, shr8 hwm, cast_beq_one, hbt]
            refine ⟨by omega, ?_⟩
            have hl8 := hk.1
            refine vfor [2,8,11,12,13,14,62,63,64] [11,12] [] ks.length (fun _ => True) (fun i => ⟨[(2,.p (natP j)),(8,.p (.ref [u8P m, knsP ks] 0)),(11,.sl 11),(12,.sl 12),(13,.p (natP k)),(14,.p (.ref [u8P w.1, ints w.2] 0)),(62,.p (knsP ks)),(63,.p (natP ks.length)),(64,.p (natP i))], [(11, .vec 107 2 (lof wayP (R6.bfsRow ks w todo i))), (12, .vec 66 1 (lof u8P ((R6.bfsRow ks w todo i).map (·.1))))]⟩) rfl trivial ?_
            intro i hi _
            have hrow := hw.row hk (w := w) ⟨hwm, hwl⟩ i hi
            have hrl := hrow.1.length
            have hsu := R6.bfsRow_succ ks w todo i
            by_cases hik : i < ks.length
            · obtain ⟨x, hxx⟩ := get_some hik
              have hok := hk.2 x (List.mem_of_getElem? hxx)
              have hd : ks.getD i (0, 0, 0) = x := by simp [hxx]
              unfold R6.bfsStep at hsu
              rw [hd] at hsu
              generalize R6.bfsRow ks w todo i = row at *
              by_cases hs : R6.sub x.1 w.1 = true
              · by_cases hc : ((row.map (·.1)).any ((w.1 ||| x.2.1) == ·)) = false
                · rw [if_pos ⟨hs, hc⟩] at hsu
                  simp only [go_sem, ↓reduceIte, Nat.reduceLT, Nat.reduceLeDiff, Nat.reduceEqDiff, Nat.reduceAdd, Nat.reduceSub, Nat.reduceDiv, Nat.reduceMod, Nat.reduceMul, Nat.reduceBEq, Nat.reduceBNe, reduceCtorEq, Int.reduceLT, Int.reduceLE, Int.reduceEq, Int.reduceNe, Int.reduceBEq, Int.reduceBNe, Int.reduceAdd, Int.reduceSub, Int.reduceNeg, Int.reduceToNat, hik, lof_getD hxx, hs, hc, hok.1, hok.2, hwm, bits_or8 hwm hok.2]
                  rw [hsu, List.map_append]
                  have hml : (row.map (·.1)).length = row.length := by simp
                  refine ⟨by unfold sz; omega, by omega, by unfold sz; omega, by omega, by omega, by rw [InK_i64]; omega, rfl⟩
                · rw [if_neg (by simp [hc])] at hsu
                  rw [Bool.not_eq_false] at hc
                  simp only [go_sem, ↓reduceIte, Nat.reduceLT, Nat.reduceLeDiff, Nat.reduceEqDiff, Nat.reduceAdd, Nat.reduceSub, Nat.reduceDiv, Nat.reduceMod, Nat.reduceMul, Nat.reduceBEq, Nat.reduceBNe, reduceCtorEq, Int.reduceLT, Int.reduceLE, Int.reduceEq, Int.reduceNe, Int.reduceBEq, Int.reduceBNe, Int.reduceAdd, Int.reduceSub, Int.reduceNeg, Int.reduceToNat, hik, lof_getD hxx, hs, hc, hok.1, hok.2, hwm, bits_or8 hwm hok.2]
                  rw [hsu]
                  have hml : (row.map (·.1)).length = row.length := by simp
                  refine ⟨by unfold sz; omega, by rw [InK_i64]; omega, rfl⟩
              · rw [if_neg (by simp [hs])] at hsu
                rw [Bool.not_eq_true] at hs
                simp only [go_sem, ↓reduceIte, Nat.reduceLT, Nat.reduceLeDiff, Nat.reduceEqDiff, Nat.reduceAdd, Nat.reduceSub, Nat.reduceDiv, Nat.reduceMod, Nat.reduceMul, Nat.reduceBEq, Nat.reduceBNe, reduceCtorEq, Int.reduceLT, Int.reduceLE, Int.reduceEq, Int.reduceNe, Int.reduceBEq, Int.reduceBNe, Int.reduceAdd, Int.reduceSub, Int.reduceNeg, Int.reduceToNat, hik, lof_getD hxx, hs, hok.1, hok.2, hwm, bits_or8 hwm hok.2]
                rw [hsu]
                (repeat' (first | assumption | (rw [InK_i64]; omega) | (rw [InK_u8]; omega) | (rw [InK_u64]; omega) | omega | rfl | apply And.intro))
            · obtain rfl : i = ks.length := by omega
              simp only [go_sem, ↓reduceIte, Nat.reduceLT, Nat.reduceLeDiff, Nat.reduceEqDiff, Nat.reduceAdd, Nat.reduceSub, Nat.reduceDiv, Nat.reduceMod, Nat.reduceMul, Nat.reduceBEq, Nat.reduceBNe, reduceCtorEq, Int.reduceLT, Int.reduceLE, Int.reduceEq, Int.reduceNe, Int.reduceBEq, Int.reduceBNe, Int.reduceAdd, Int.reduceSub, Int.reduceNeg, Int.reduceToNat, hik, hkl]
              exact ⟨by rw [InK_i64]; omega, (k + 1, R6.bfsRow ks w todo ks.length), by simp only; omega, ⟨by simp only; omega, hrow.1, hI⟩, rfl⟩
        · simp only [go_sem, ↓reduceIte, Nat.reduceLT, Nat.reduceLeDiff, Nat.reduceEqDiff, Nat.reduceAdd, Nat.reduceSub, Nat.reduceDiv, Nat.reduceMod, Nat.reduceMul, Nat.reduceBEq, Nat.reduceBNe, reduceCtorEq, Int.reduceLT, Int.reduceLE, Int.reduceEq, Int.reduceNe, Int.reduceBEq, Int.reduceBNe, Int.reduceAdd, Int.reduceSub, Int.reduceNeg, Int.reduceToNat, hkl]
          have hb : R6.bfs ks j (300 - k) k todo = none := by
            rw [show 300 - k = (300 - (k + 1)) + 1 by omega]; simp [R6.bfs, show todo[k]? = none from List.getElem?_eq_none (by omega)]
          rw [hI, hb]
          refine ex_le ?_
          (repeat' (first | exact Le.refl _ | exact Le.nilS _ _ | exact Le.tight | refine Le.tuple ?_ | refine Le.list ?_ | refine Le.agg ?_ | refine LeL.cons ?_ ?_ | exact LeL.nil))
  · simp only [go_sem, ↓reduceIte, Nat.reduceLT, Nat.reduceLeDiff, Nat.reduceEqDiff, Nat.reduceAdd, Nat.reduceSub, Nat.reduceDiv, Nat.reduceMod, Nat.reduceMul, Nat.reduceBEq, Nat.reduceBNe, reduceCtorEq, Int.reduceLT, Int.reduceLE, Int.reduceEq, Int.reduceNe, Int.reduceBEq, Int.reduceBNe, Int.reduceAdd, Int.reduceSub, Int.reduceNeg, Int.reduceToNat, show (R6.asked n l set != 0) = true by simp [h]]
    refine ex_le ?_
    rw [show R6.stepsM n l set fact = ([], R6.asked n l set) by simp [R6.stepsM, h]]
    (repeat' (first | exact Le.refl _ | exact Le.nilS _ _ | exact Le.tight | refine Le.tuple ?_ | refine Le.list ?_ | refine Le.agg ?_ | refine LeL.cons ?_ ?_ | exact LeL.nil))
noncomputable def tab_Steps6s : Tab := tabOf (fun p : (Int) × (List (List Int × List Int)) × (List Int) × (Int) => match p with | (n, l, set, fact) => [bookP n l, ints set, intP fact]) (fun p : (Int) × (List (List Int × List Int)) × (List Int) × (Int) => match p with | (n, l, set, fact) => BkOK l ∧ sz set.length) (fun p : (Int) × (List (List Int × List Int)) × (List Int) × (Int) => match p with | (n, l, set, fact) => .tuple [ints (R6.stepsM n l set fact).1, errP (R6.stepsM n l set fact).2])
theorem tab_Steps6s_eq (n : Int) (l : List (List Int × List Int)) (set : List Int) (fact : Int) : tab_Steps6s [bookP n l, ints set, intP fact] = some (BkOK l ∧ sz set.length, .p (.tuple [ints (R6.stepsM n l set fact).1, errP (R6.stepsM n l set fact).2])) := tabOf_eq (enc := fun p : (Int) × (List (List Int × List Int)) × (List Int) × (Int) => match p with | (n, l, set, fact) => [bookP n l, ints set, intP fact]) (pre := fun p : (Int) × (List (List Int × List Int)) × (List Int) × (Int) => match p with | (n, l, set, fact) => BkOK l ∧ sz set.length) (out := fun p : (Int) × (List (List Int × List Int)) × (List Int) × (Int) => match p with | (n, l, set, fact) => .tuple [ints (R6.stepsM n l set fact).1, errP (R6.stepsM n l set fact).2]) (by rintro ⟨n, l, set, fact⟩ ⟨n', l', set', fact'⟩ h; simp at h; first | (simp [h]; done) | omega | (simp [h]; omega)) (n, l, set, fact)
theorem tab_Steps6s_ok : TabOK Tryd.prog 38 tab_Steps6s := tabOf_ok (by rintro ⟨n, l, set, fact⟩ h; exact Steps6s_spec n l set fact h)
noncomputable abbrev ent_Steps6s : FuncId × List Nat × Tab := (38, [2, 1, 1], tab_Steps6s)
attribute [go_sem] tab_Steps6s_eq
end Go.V

namespace Go.V
open Go.Proofs
set_option maxRecDepth 10000
set_option maxHeartbeats 1000000

theorem take_eq_succ {α : Type} {a b : List α} {k : Nat} {x : α} (h : a.take k = b.take k) (ha : a[k]? = some x) (hb : b[k]? = some x) : a.take (k + 1) = b.take (k + 1) := by
  rw [R6.take_succ_of ha, R6.take_succ_of hb, h]
theorem ne_of_get {α : Type} {a b : List α} {k : Nat} {x y : α} (ha : a[k]? = some x) (hb : b[k]? = some y) (h : x ≠ y) : a ≠ b := fun e => by
  subst e; rw [ha] at hb; exact h (by simpa using hb)

theorem same_spec (a : List Int) (b : List Int) (hpre : sz a.length) : Ret Tryd.prog 15 [ints a, ints b] (boolP (decide (a = b))) := by
  refine fn_of (T := []) (N := 26) (RO := []) (CH := []) (KS := [0, 1, 4, 5, 10, 14, 25]) (NS := []) (fun args w => Tryd.call15 args w) Tryd.func15 rfl rfl (by simp) mixed (by kernel_rfl) trivial ?_
  simp only [go_sem, ↓reduceIte, Nat.reduceLT, Nat.reduceLeDiff, Nat.reduceEqDiff, Nat.reduceAdd, Nat.reduceSub, Nat.reduceDiv, Nat.reduceMod, Nat.reduceMul, Nat.reduceBEq, Nat.reduceBNe, reduceCtorEq, Int.reduceLT, Int.reduceLE, Int.reduceEq, Int.reduceNe, Int.reduceBEq, Int.reduceBNe, Int.reduceAdd, Int.reduceSub, Int.reduceNeg, Int.reduceToNat]
  by_cases hl : (a.length : Int) = b.length
  · simp only [go_sem, ↓reduceIte, Nat.reduceLT, Nat.reduceLeDiff, Nat.reduceEqDiff, Nat.reduceAdd, Nat.reduceSub, Nat.reduceDiv, Nat.reduceMod, Nat.reduceMul, Nat.reduceBEq, Nat.reduceBNe, reduceCtorEq, Int.reduceLT, Int.reduceLE, Int.reduceEq, Int.reduceNe, Int.reduceBEq, Int.reduceBNe, Int.reduceAdd, Int.reduceSub, Int.reduceNeg, Int.reduceToNat, show ((a.length : Int) != (b.length : Int)) = false by simp; omega]
    refine vfor [0,1,5] [] [] a.length (fun k => a.take k = b.take k) (fun k => ⟨[(0,.p (ints a)),(1,.p (ints b)),(5,.p (natP k))], []⟩) rfl (by simp) ?_
    intro k hk hI
    by_cases hlt : k < a.length
    · obtain ⟨x, hx⟩ := get_some hlt
      have hlb : k < b.length := by omega
      obtain ⟨y, hy⟩ := get_some hlb
      by_cases e : x = y
      · subst e
        have := take_eq_succ hI hx hy
        simp only [go_sem, ↓reduceIte, Nat.reduceLT, Nat.reduceLeDiff, Nat.reduceEqDiff, Nat.reduceAdd, Nat.reduceSub, Nat.reduceDiv, Nat.reduceMod, Nat.reduceMul, Nat.reduceBEq, Nat.reduceBNe, reduceCtorEq, Int.reduceLT, Int.reduceLE, Int.reduceEq, Int.reduceNe, Int.reduceBEq, Int.reduceBNe, Int.reduceAdd, Int.reduceSub, Int.reduceNeg, Int.reduceToNat, hlt, hlb, lof_getD hx, lof_getD hy]
        (repeat' (first | assumption | (rw [InK_i64]; omega) | (rw [InK_u8]; omega) | (rw [InK_u64]; omega) | omega | rfl | apply And.intro))
      · simp only [go_sem, ↓reduceIte, Nat.reduceLT, Nat.reduceLeDiff, Nat.reduceEqDiff, Nat.reduceAdd, Nat.reduceSub, Nat.reduceDiv, Nat.reduceMod, Nat.reduceMul, Nat.reduceBEq, Nat.reduceBNe, reduceCtorEq, Int.reduceLT, Int.reduceLE, Int.reduceEq, Int.reduceNe, Int.reduceBEq, Int.reduceBNe, Int.reduceAdd, Int.reduceSub, Int.reduceNeg, Int.reduceToNat, hlt, hlb, lof_getD hx, lof_getD hy, show (x != y) = true by simp [e]]
        exact ex_le_refl (by simp [ne_of_get hx hy e])
    · simp only [go_sem, ↓reduceIte, Nat.reduceLT, Nat.reduceLeDiff, Nat.reduceEqDiff, Nat.reduceAdd, Nat.reduceSub, Nat.reduceDiv, Nat.reduceMod, Nat.reduceMul, Nat.reduceBEq, Nat.reduceBNe, reduceCtorEq, Int.reduceLT, Int.reduceLE, Int.reduceEq, Int.reduceNe, Int.reduceBEq, Int.reduceBNe, Int.reduceAdd, Int.reduceSub, Int.reduceNeg, Int.reduceToNat, hlt]
      rw [take_all hk hlt, List.take_of_length_le (by omega)] at hI
      exact ex_le_refl (by simp [hI])
  · simp only [go_sem, ↓reduceIte, Nat.reduceLT, Nat.reduceLeDiff, Nat.reduceEqDiff, Nat.reduceAdd, Nat.reduceSub, Nat.reduceDiv, Nat.reduceMod, Nat.reduceMul, Nat.reduceBEq, Nat.reduceBNe, reduceCtorEq, Int.reduceLT, Int.reduceLE, Int.reduceEq, Int.reduceNe, Int.reduceBEq, Int.reduceBNe, Int.reduceAdd, Int.reduceSub, Int.reduceNeg, Int.reduceToNat, show ((a.length : Int) != (b.length : Int)) = true by simp; omega]
    exact ex_le_refl (by simp; intro e; subst e; exact hl rfl)
noncomputable def tab_same : Tab := tabOf (fun p : (List Int) × (List Int) => match p with | (a, b) => [ints a, ints b]) (fun p : (List Int) × (List Int) => match p with | (a, b) => sz a.length) (fun p : (List Int) × (List Int) => match p with | (a, b) => boolP (decide (a = b)))
theorem tab_same_eq (a : List Int) (b : List Int) : tab_same [ints a, ints b] = some (sz a.length, .p (boolP (decide (a = b)))) := tabOf_eq (enc := fun p : (List Int) × (List Int) => match p with | (a, b) => [ints a, ints b]) (pre := fun p : (List Int) × (List Int) => match p with | (a, b) => sz a.length) (out := fun p : (List Int) × (List Int) => match p with | (a, b) => boolP (decide (a = b))) (by rintro ⟨a, b⟩ ⟨a', b'⟩ h; simp at h; first | (simp [h]; done) | omega | (simp [h]; omega)) (a, b)
theorem tab_same_ok : TabOK Tryd.prog 15 tab_same := tabOf_ok (by rintro ⟨a, b⟩ h; exact same_spec a b h)
noncomputable abbrev ent_same : FuncId × List Nat × Tab := (15, [1, 1], tab_same)
attribute [go_sem] tab_same_eq

theorem lists_spec (a : List (List Int)) (b : List (List Int)) (hpre : sz a.length ∧ ∀ r ∈ a, sz r.length) : Ret Tryd.prog 25 [rowsP a, rowsP b] (boolP (decide (a = b))) := by
  refine fn_of (T := [ent_same]) (N := 27) (RO := []) (CH := []) (KS := [0, 1, 4, 5, 10, 14, 26]) (NS := []) (fun args w => Tryd.call25 args w) Tryd.func25 rfl rfl (by simp) mixed (by kernel_rfl) ⟨tab_same_ok, trivial⟩ ?_
  simp only [go_sem, ↓reduceIte, Nat.reduceLT, Nat.reduceLeDiff, Nat.reduceEqDiff, Nat.reduceAdd, Nat.reduceSub, Nat.reduceDiv, Nat.reduceMod, Nat.reduceMul, Nat.reduceBEq, Nat.reduceBNe, reduceCtorEq, Int.reduceLT, Int.reduceLE, Int.reduceEq, Int.reduceNe, Int.reduceBEq, Int.reduceBNe, Int.reduceAdd, Int.reduceSub, Int.reduceNeg, Int.reduceToNat]
  by_cases hl : (a.length : Int) = b.length
  · simp only [go_sem, ↓reduceIte, Nat.reduceLT, Nat.reduceLeDiff, Nat.reduceEqDiff, Nat.reduceAdd, Nat.reduceSub, Nat.reduceDiv, Nat.reduceMod, Nat.reduceMul, Nat.reduceBEq, Nat.reduceBNe, reduceCtorEq, Int.reduceLT, Int.reduceLE, Int.reduceEq, Int.reduceNe, Int.reduceBEq, Int.reduceBNe, Int.reduceAdd, Int.reduceSub, Int.reduceNeg, Int.reduceToNat, show ((a.length : Int) != (b.length : Int)) = false by simp; omega]
    have ha := hpre.1
    refine vfor [0,1,5] [] [] a.length (fun k => a.take k = b.take k) (fun k => ⟨[(0,.p (rowsP a)),(1,.p (rowsP b)),(5,.p (natP k))], []⟩) rfl (by simp) ?_
    intro k hk hI
    by_cases hlt : k < a.length
    · obtain ⟨x, hx⟩ := get_some hlt
      have hxz := hpre.2 x (List.mem_of_getElem? hx)
      have hlb : k < b.length := by omega
      obtain ⟨y, hy⟩ := get_some hlb
      by_cases e : x = y
      · subst e
        have := take_eq_succ hI hx hy
        simp only [go_sem, ↓reduceIte, Nat.reduceLT, Nat.reduceLeDiff, Nat.reduceEqDiff, Nat.reduceAdd, Nat.reduceSub, Nat.reduceDiv, Nat.reduceMod, Nat.reduceMul, Nat.reduceBEq, Nat.reduceBNe, reduceCtorEq, Int.reduceLT, Int.reduceLE, Int.reduceEq, Int.reduceNe, Int.reduceBEq, Int.reduceBNe, Int.reduceAdd, Int.reduceSub, Int.reduceNeg, Int.reduceToNat, hlt, hlb, lof_getD hx, lof_getD hy]
        (repeat' (first | assumption | (rw [InK_i64]; omega) | (rw [InK_u8]; omega) | (rw [InK_u64]; omega) | omega | rfl | apply And.intro))
      · simp only [go_sem, ↓reduceIte, Nat.reduceLT, Nat.reduceLeDiff, Nat.reduceEqDiff, Nat.reduceAdd, Nat.reduceSub, Nat.reduceDiv, Nat.reduceMod, Nat.reduceMul, Nat.reduceBEq, Nat.reduceBNe, reduceCtorEq, Int.reduceLT, Int.reduceLE, Int.reduceEq, Int.reduceNe, Int.reduceBEq, Int.reduceBNe, Int.reduceAdd, Int.reduceSub, Int.reduceNeg, Int.reduceToNat, hlt, hlb, lof_getD hx, lof_getD hy, e]
        exact ⟨hxz, ex_le_refl (by simp [ne_of_get hx hy e])⟩
    · simp only [go_sem, ↓reduceIte, Nat.reduceLT, Nat.reduceLeDiff, Nat.reduceEqDiff, Nat.reduceAdd, Nat.reduceSub, Nat.reduceDiv, Nat.reduceMod, Nat.reduceMul, Nat.reduceBEq, Nat.reduceBNe, reduceCtorEq, Int.reduceLT, Int.reduceLE, Int.reduceEq, Int.reduceNe, Int.reduceBEq, Int.reduceBNe, Int.reduceAdd, Int.reduceSub, Int.reduceNeg, Int.reduceToNat, hlt]
      rw [take_all hk hlt, List.take_of_length_le (by omega)] at hI
      exact ex_le_refl (by simp [hI])
  · simp only [go_sem, ↓reduceIte, Nat.reduceLT, Nat.reduceLeDiff, Nat.reduceEqDiff, Nat.reduceAdd, Nat.reduceSub, Nat.reduceDiv, Nat.reduceMod, Nat.reduceMul, Nat.reduceBEq, Nat.reduceBNe, reduceCtorEq, Int.reduceLT, Int.reduceLE, Int.reduceEq, Int.reduceNe, Int.reduceBEq, Int.reduceBNe, Int.reduceAdd, Int.reduceSub, Int.reduceNeg, Int.reduceToNat, show ((a.length : Int) != (b.length : Int)) = true by simp; omega]
    exact ex_le_refl (by simp; intro e; subst e; exact hl rfl)
noncomputable def tab_lists : Tab := tabOf (fun p : (List (List Int)) × (List (List Int)) => match p with | (a, b) => [rowsP a, rowsP b]) (fun p : (List (List Int)) × (List (List Int)) => match p with | (a, b) => sz a.length ∧ ∀ r ∈ a, sz r.length) (fun p : (List (List Int)) × (List (List Int)) => match p with | (a, b) => boolP (decide (a = b)))
theorem tab_lists_eq (a : List (List Int)) (b : List (List Int)) : tab_lists [rowsP a, rowsP b] = some (sz a.length ∧ ∀ r ∈ a, sz r.length, .p (boolP (decide (a = b)))) := tabOf_eq (enc := fun p : (List (List Int)) × (List (List Int)) => match p with | (a, b) => [rowsP a, rowsP b]) (pre := fun p : (List (List Int)) × (List (List Int)) => match p with | (a, b) => sz a.length ∧ ∀ r ∈ a, sz r.length) (out := fun p : (List (List Int)) × (List (List Int)) => match p with | (a, b) => boolP (decide (a = b))) (by rintro ⟨a, b⟩ ⟨a', b'⟩ h; simp at h; first | (simp [h]; done) | omega | (simp [h]; omega)) (a, b)
theorem tab_lists_ok : TabOK Tryd.prog 25 tab_lists := tabOf_ok (by rintro ⟨a, b⟩ h; exact lists_spec a b h)
noncomputable abbrev ent_lists : FuncId × List Nat × Tab := (25, [1, 1], tab_lists)
attribute [go_sem] tab_lists_eq

theorem sentences_spec (a : List (List Int × List Int)) (b : List (List Int × List Int)) (hpre : sz a.length ∧ BkOK a) : Ret Tryd.prog 24 [sents a, sents b] (boolP (decide (a = b))) := by
  refine fn_of (T := [ent_same]) (N := 43) (RO := []) (CH := []) (KS := [0, 1, 4, 5, 10, 14, 42]) (NS := []) (fun args w => Tryd.call24 args w) Tryd.func24 rfl rfl (by simp) mixed (by kernel_rfl) ⟨tab_same_ok, trivial⟩ ?_
  simp only [go_sem, ↓reduceIte, Nat.reduceLT, Nat.reduceLeDiff, Nat.reduceEqDiff, Nat.reduceAdd, Nat.reduceSub, Nat.reduceDiv, Nat.reduceMod, Nat.reduceMul, Nat.reduceBEq, Nat.reduceBNe, reduceCtorEq, Int.reduceLT, Int.reduceLE, Int.reduceEq, Int.reduceNe, Int.reduceBEq, Int.reduceBNe, Int.reduceAdd, Int.reduceSub, Int.reduceNeg, Int.reduceToNat]
  by_cases hl : (a.length : Int) = b.length
  · simp only [go_sem, ↓reduceIte, Nat.reduceLT, Nat.reduceLeDiff, Nat.reduceEqDiff, Nat.reduceAdd, Nat.reduceSub, Nat.reduceDiv, Nat.reduceMod, Nat.reduceMul, Nat.reduceBEq, Nat.reduceBNe, reduceCtorEq, Int.reduceLT, Int.reduceLE, Int.reduceEq, Int.reduceNe, Int.reduceBEq, Int.reduceBNe, Int.reduceAdd, Int.reduceSub, Int.reduceNeg, Int.reduceToNat, show ((a.length : Int) != (b.length : Int)) = false by simp; omega]
    have ha := hpre.1
    refine vfor [0,1,5] [] [] a.length (fun k => a.take k = b.take k) (fun k => ⟨[(0,.p (sents a)),(1,.p (sents b)),(5,.p (natP k))], []⟩) rfl (by simp) ?_
    intro k hk hI
    by_cases hlt : k < a.length
    · obtain ⟨x, hx⟩ := get_some hlt
      have hxz := hpre.2.at hx
      have hlb : k < b.length := by omega
      obtain ⟨y, hy⟩ := get_some hlb
      by_cases e1 : x.1 = y.1
      · by_cases e2 : x.2 = y.2
        · have e : x = y := Prod.ext e1 e2
          subst e
          have := take_eq_succ hI hx hy
          simp only [go_sem, ↓reduceIte, Nat.reduceLT, Nat.reduceLeDiff, Nat.reduceEqDiff, Nat.reduceAdd, Nat.reduceSub, Nat.reduceDiv, Nat.reduceMod, Nat.reduceMul, Nat.reduceBEq, Nat.reduceBNe, reduceCtorEq, Int.reduceLT, Int.reduceLE, Int.reduceEq, Int.reduceNe, Int.reduceBEq, Int.reduceBNe, Int.reduceAdd, Int.reduceSub, Int.reduceNeg, Int.reduceToNat, hlt, hlb, lof_getD hx, lof_getD hy, hxz.1, hxz.2]
          (repeat' (first | assumption | (rw [InK_i64]; omega) | (rw [InK_u8]; omega) | (rw [InK_u64]; omega) | omega | rfl | apply And.intro))
        · simp only [go_sem, ↓reduceIte, Nat.reduceLT, Nat.reduceLeDiff, Nat.reduceEqDiff, Nat.reduceAdd, Nat.reduceSub, Nat.reduceDiv, Nat.reduceMod, Nat.reduceMul, Nat.reduceBEq, Nat.reduceBNe, reduceCtorEq, Int.reduceLT, Int.reduceLE, Int.reduceEq, Int.reduceNe, Int.reduceBEq, Int.reduceBNe, Int.reduceAdd, Int.reduceSub, Int.reduceNeg, Int.reduceToNat, hlt, hlb, lof_getD hx, lof_getD hy, e1, e2, hxz.2]
          exact ⟨by rw [← e1]; exact hxz.1, ex_le_refl (by simp [ne_of_get hx hy (fun e => e2 (by rw [e]))])⟩
      · simp only [go_sem, ↓reduceIte, Nat.reduceLT, Nat.reduceLeDiff, Nat.reduceEqDiff, Nat.reduceAdd, Nat.reduceSub, Nat.reduceDiv, Nat.reduceMod, Nat.reduceMul, Nat.reduceBEq, Nat.reduceBNe, reduceCtorEq, Int.reduceLT, Int.reduceLE, Int.reduceEq, Int.reduceNe, Int.reduceBEq, Int.reduceBNe, Int.reduceAdd, Int.reduceSub, Int.reduceNeg, Int.reduceToNat, hlt, hlb, lof_getD hx, lof_getD hy, e1]
        exact ⟨hxz.1, ex_le_refl (by simp [ne_of_get hx hy (fun e => e1 (by rw [e]))])⟩
    · simp only [go_sem, ↓reduceIte, Nat.reduceLT, Nat.reduceLeDiff, Nat.reduceEqDiff, Nat.reduceAdd, Nat.reduceSub, Nat.reduceDiv, Nat.reduceMod, Nat.reduceMul, Nat.reduceBEq, Nat.reduceBNe, reduceCtorEq, Int.reduceLT, Int.reduceLE, Int.reduceEq, Int.reduceNe, Int.reduceBEq, Int.reduceBNe, Int.reduceAdd, Int.reduceSub, Int.reduceNeg, Int.reduceToNat, hlt]
      rw [take_all hk hlt, List.take_of_length_le (by omega)] at hI
      exact ex_le_refl (by simp [hI])
  · simp only [go_sem, ↓reduceIte, Nat.reduceLT, Nat.reduceLeDiff, Nat.reduceEqDiff, Nat.reduceAdd, Nat.reduceSub, Nat.reduceDiv, Nat.reduceMod, Nat.reduceMul, Nat.reduceBEq, Nat.reduceBNe, reduceCtorEq, Int.reduceLT, Int.reduceLE, Int.reduceEq, Int.reduceNe, Int.reduceBEq, Int.reduceBNe, Int.reduceAdd, Int.reduceSub, Int.reduceNeg, Int.reduceToNat, show ((a.length : Int) != (b.length : Int)) = true by simp; omega]
    exact ex_le_refl (by simp; intro e; subst e; exact hl rfl)
noncomputable def tab_sentences : Tab := tabOf (fun p : (List (List Int × List Int)) × (List (List Int × List Int)) => match p with | (a, b) => [sents a, sents b]) (fun p : (List (List Int × List Int)) × (List (List Int × List Int)) => match p with | (a, b) => sz a.length ∧ BkOK a) (fun p : (List (List Int × List Int)) × (List (List Int × List Int)) => match p with | (a, b) => boolP (decide (a = b)))
theorem tab_sentences_eq (a : List (List Int × List Int)) (b : List (List Int × List Int)) : tab_sentences [sents a, sents b] = some (sz a.length ∧ BkOK a, .p (boolP (decide (a = b)))) := tabOf_eq (enc := fun p : (List (List Int × List Int)) × (List (List Int × List Int)) => match p with | (a, b) => [sents a, sents b]) (pre := fun p : (List (List Int × List Int)) × (List (List Int × List Int)) => match p with | (a, b) => sz a.length ∧ BkOK a) (out := fun p : (List (List Int × List Int)) × (List (List Int × List Int)) => match p with | (a, b) => boolP (decide (a = b))) (by rintro ⟨a, b⟩ ⟨a', b'⟩ h; simp at h; first | (simp [h]; done) | omega | (simp [h]; omega)) (a, b)
theorem tab_sentences_ok : TabOK Tryd.prog 24 tab_sentences := tabOf_ok (by rintro ⟨a, b⟩ h; exact sentences_spec a b h)
noncomputable abbrev ent_sentences : FuncId × List Nat × Tab := (24, [2, 2], tab_sentences)
attribute [go_sem] tab_sentences_eq

theorem list_spec (l : List Int) (hpre : True) : Ret Tryd.prog 36 [ints l] (ints l) := by
  refine fn_of (T := []) (N := 4) (RO := []) (CH := []) (KS := [0, 2]) (NS := []) (fun args w => Tryd.call36 args w) Tryd.func36 rfl rfl (by simp) mixed (by kernel_rfl) trivial ?_
  simp only [go_sem, ↓reduceIte, Nat.reduceLT, Nat.reduceLeDiff, Nat.reduceEqDiff, Nat.reduceAdd, Nat.reduceSub, Nat.reduceDiv, Nat.reduceMod, Nat.reduceMul, Nat.reduceBEq, Nat.reduceBNe, reduceCtorEq, Int.reduceLT, Int.reduceLE, Int.reduceEq, Int.reduceNe, Int.reduceBEq, Int.reduceBNe, Int.reduceAdd, Int.reduceSub, Int.reduceNeg, Int.reduceToNat]
  exact ex_le_refl rfl
noncomputable def tab_list : Tab := tabOf (fun p : (List Int) => match p with | l => [ints l]) (fun p : (List Int) => match p with | l => True) (fun p : (List Int) => match p with | l => ints l)
theorem tab_list_eq (l : List Int) : tab_list [ints l] = some (True, .p (ints l)) := tabOf_eq (enc := fun p : (List Int) => match p with | l => [ints l]) (pre := fun p : (List Int) => match p with | l => True) (out := fun p : (List Int) => match p with | l => ints l) (by rintro l l' h; simp at h; first | (simp [h]; done) | omega | (simp [h]; omega)) (l)
theorem tab_list_ok : TabOK Tryd.prog 36 tab_list := tabOf_ok (by rintro l h; exact list_spec l h)
noncomputable abbrev ent_list : FuncId × List Nat × Tab := (36, [1], tab_list)
attribute [go_sem] tab_list_eq
theorem sentence_spec (a : List Int) (b : List Int) (hpre : True) : Ret Tryd.prog 21 [ints a, ints b] (sentP (a, b)) := by
  refine fn_of (T := []) (N := 8) (RO := []) (CH := []) (KS := [0, 1, 4]) (NS := [4]) (fun args w => Tryd.call21 args w) Tryd.func21 rfl rfl (by simp) mixed (by kernel_rfl) trivial ?_
  simp only [go_sem, ↓reduceIte, Nat.reduceLT, Nat.reduceLeDiff, Nat.reduceEqDiff, Nat.reduceAdd, Nat.reduceSub, Nat.reduceDiv, Nat.reduceMod, Nat.reduceMul, Nat.reduceBEq, Nat.reduceBNe, reduceCtorEq, Int.reduceLT, Int.reduceLE, Int.reduceEq, Int.reduceNe, Int.reduceBEq, Int.reduceBNe, Int.reduceAdd, Int.reduceSub, Int.reduceNeg, Int.reduceToNat]
  exact ex_le_refl rfl
noncomputable def tab_sentence : Tab := tabOf (fun p : (List Int) × (List Int) => match p with | (a, b) => [ints a, ints b]) (fun p : (List Int) × (List Int) => match p with | (a, b) => True) (fun p : (List Int) × (List Int) => match p with | (a, b) => sentP (a, b))
theorem tab_sentence_eq (a : List Int) (b : List Int) : tab_sentence [ints a, ints b] = some (True, .p (sentP (a, b))) := tabOf_eq (enc := fun p : (List Int) × (List Int) => match p with | (a, b) => [ints a, ints b]) (pre := fun p : (List Int) × (List Int) => match p with | (a, b) => True) (out := fun p : (List Int) × (List Int) => match p with | (a, b) => sentP (a, b)) (by rintro ⟨a, b⟩ ⟨a', b'⟩ h; simp at h; first | (simp [h]; done) | omega | (simp [h]; omega)) (a, b)
theorem tab_sentence_ok : TabOK Tryd.prog 21 tab_sentence := tabOf_ok (by rintro ⟨a, b⟩ h; exact sentence_spec a b h)
noncomputable abbrev ent_sentence : FuncId × List Nat × Tab := (21, [1, 1], tab_sentence)
attribute [go_sem] tab_sentence_eq
theorem book_spec (n : Int) (l : List (List Int × List Int)) (hpre : True) : Ret Tryd.prog 44 [intP n, sents l] (bookP n l) := by
  refine fn_of (T := []) (N := 8) (RO := []) (CH := []) (KS := [0, 1, 4]) (NS := [4]) (fun args w => Tryd.call44 args w) Tryd.func44 rfl rfl (by simp) mixed (by kernel_rfl) trivial ?_
  simp only [go_sem, ↓reduceIte, Nat.reduceLT, Nat.reduceLeDiff, Nat.reduceEqDiff, Nat.reduceAdd, Nat.reduceSub, Nat.reduceDiv, Nat.reduceMod, Nat.reduceMul, Nat.reduceBEq, Nat.reduceBNe, reduceCtorEq, Int.reduceLT, Int.reduceLE, Int.reduceEq, Int.reduceNe, Int.reduceBEq, Int.reduceBNe, Int.reduceAdd, Int.reduceSub, Int.reduceNeg, Int.reduceToNat]
  exact ex_le_refl rfl
noncomputable def tab_book : Tab := tabOf (fun p : (Int) × (List (List Int × List Int)) => match p with | (n, l) => [intP n, sents l]) (fun p : (Int) × (List (List Int × List Int)) => match p with | (n, l) => True) (fun p : (Int) × (List (List Int × List Int)) => match p with | (n, l) => bookP n l)
theorem tab_book_eq (n : Int) (l : List (List Int × List Int)) : tab_book [intP n, sents l] = some (True, .p (bookP n l)) := tabOf_eq (enc := fun p : (Int) × (List (List Int × List Int)) => match p with | (n, l) => [intP n, sents l]) (pre := fun p : (Int) × (List (List Int × List Int)) => match p with | (n, l) => True) (out := fun p : (Int) × (List (List Int × List Int)) => match p with | (n, l) => bookP n l) (by rintro ⟨n, l⟩ ⟨n', l'⟩ h; simp at h; first | (simp [h]; done) | omega | (simp [h]; omega)) (n, l)
theorem tab_book_ok : TabOK Tryd.prog 44 tab_book := tabOf_ok (by rintro ⟨n, l⟩ h; exact book_spec n l h)
noncomputable abbrev ent_book : FuncId × List Nat × Tab := (44, [1, 2], tab_book)
attribute [go_sem] tab_book_eq
end Go.V
