/-
  Contracts of the reference of chapter 05: all trees. Conditions: none.
-/
import Derived.Test.YtggiakaeaalioaaA5
set_option linter.unusedVariables false
set_option linter.unusedSimpArgs false
set_option linter.deprecated false
namespace Go.V
open Go.Proofs
set_option maxRecDepth 10000
set_option maxHeartbeats 1000000

/-- the lists of all trees of the kinds from a to b -/
def treesL (a b : Int) : List (List Int) := (R5.all (b - a + 1).toNat).map fun t => t.enc a.toNat
def prL (k : Int) (x y : List (List Int)) : List (List Int) := x.flatMap fun l => y.map fun r => k :: (l ++ r)
def treesU (a b : Int) (i : Nat) : List (List Int) := (List.range i).flatMap fun (j : Nat) => prL (a + (j : Int)) (treesL a (a + (j : Int))) (treesL (a + (j : Int) + 1) b)
theorem treesU_zero (a b : Int) : treesU a b 0 = [] := rfl
theorem treesU_succ (a b : Int) (i : Nat) : treesU a b (i + 1) = treesU a b i ++ prL (a + i) (treesL a (a + i)) (treesL (a + i + 1) b) := by
  unfold treesU; rw [List.range_succ, List.flatMap_append]; simp
theorem treesL_one (a : Int) : treesL a a = [[]] := by
  unfold treesL; rw [show (a - a + 1).toNat = 1 by omega]; rfl
theorem treesL_step {a b : Int} (h0 : 0 ≤ a) (h : a < b) : treesL a b = treesU a b (b - a).toNat := by
  obtain ⟨x, rfl⟩ : ∃ x : Nat, a = x := ⟨a.toNat, by omega⟩
  obtain ⟨m, rfl⟩ : ∃ m : Nat, b = (x : Int) + m + 1 := ⟨(b - x - 1).toNat, by omega⟩
  unfold treesL treesU
  have e1 : ((x : Int) + m + 1 - x + 1).toNat = m + 2 := by omega
  have e2 : ((x : Int) + m + 1 - x).toNat = m + 1 := by omega
  rw [e1, e2, R5.all_step (by omega), List.map_flatMap]
  refine R5.flatMap_ext fun i hi => ?_
  have hi := List.mem_range.1 hi
  unfold prL treesL
  have e3 : ((x : Int) + i - x + 1).toNat = i + 1 := by omega
  have e4 : ((x : Int) + m + 1 - (x + i + 1) + 1).toNat = m + 2 - 1 - i := by omega
  have e5 : ((x : Int) + i + 1).toNat = x + (i + 1) := by omega
  rw [e3, e4, e5, Int.toNat_natCast, List.map_flatMap, List.flatMap_map]
  refine R5.flatMap_ext fun l hl => ?_
  have hk := (R5.mem_all (by omega) l).1 hl
  rw [List.map_map, List.map_map]
  refine List.map_congr_left fun r hr => ?_
  simp only [Function.comp, R5.T.enc, hk, List.cons.injEq]
  exact ⟨by omega, trivial⟩
theorem treesL_len {a b : Int} (h : b - a + 1 ≤ 8) : (treesL a b).length ≤ 429 := by
  unfold treesL; rw [List.length_map]; exact R5.all_len _ (by omega)
theorem treesL_mem {a b : Int} (h1 : a ≤ b) (h : b - a + 1 ≤ 8) : ∀ l ∈ treesL a b, l.length ≤ 8 := by
  intro l hl
  obtain ⟨t, ht, rfl⟩ := List.mem_map.1 hl
  have := (R5.mem_all (by omega) t).1 ht
  rw [R5.T.enc_length]; omega
theorem prL_len (k : Int) (x y : List (List Int)) : (prL k x y).length = x.length * y.length := by
  unfold prL
  induction x with
  | nil => simp
  | cons l x ih => simp [List.flatMap_cons, ih, Nat.add_mul, Nat.add_comm]
theorem treesU_len {a b : Int} (h8 : b - a + 1 ≤ 8) : ∀ (i : Nat), (i : Int) ≤ b - a → (treesU a b i).length ≤ i * 184041
  | 0, _ => by simp [treesU_zero]
  | i + 1, h => by
    have := treesU_len h8 i (by omega)
    rw [treesU_succ, List.length_append, prL_len]
    have h1 := treesL_len (a := a) (b := a + i) (by omega)
    have h2 := treesL_len (a := a + i + 1) (b := b) (by omega)
    have := Nat.mul_le_mul h1 h2
    omega
theorem prL_take (k : Int) (x y : List (List Int)) {i : Nat} {l : List Int} (hl : x[i]? = some l) : prL k (x.take (i + 1)) y = prL k (x.take i) y ++ y.map fun r => k :: (l ++ r) := by
  rw [take_succ_of hl]; unfold prL; simp [List.flatMap_append]
theorem map_take {α β : Type} (f : α → β) {y : List α} {i : Nat} {r : α} (hr : y[i]? = some r) : (y.take (i + 1)).map f = (y.take i).map f ++ [f r] := by
  rw [take_succ_of hr]; simp

noncomputable def tab_trees (M : Nat) : Tab := tabOf (fun p : Int × Int => match p with | (a, b) => [intP a, intP b]) (fun p => match p with | (a, b) => 0 ≤ a ∧ a ≤ b ∧ b ≤ 7 ∧ b - a < M) (fun p => match p with | (a, b) => lists (treesL a b))
@[go_sem] theorem tab_trees_eq (M : Nat) (a b : Int) : tab_trees M [intP a, intP b] = some (0 ≤ a ∧ a ≤ b ∧ b ≤ 7 ∧ b - a < M, .p (lists (treesL a b))) :=
  tabOf_eq (enc := fun p : Int × Int => match p with | (a, b) => [intP a, intP b]) (pre := fun p => match p with | (a, b) => 0 ≤ a ∧ a ≤ b ∧ b ≤ 7 ∧ b - a < M) (out := fun p => match p with | (a, b) => lists (treesL a b)) (by rintro ⟨a, b⟩ ⟨c, d⟩ h; simpa using h) (a, b)
theorem tab_trees_ok (M : Nat) (ih : ∀ a b : Int, 0 ≤ a → a ≤ b → b ≤ 7 → b - a < M → Ret Try.prog 72 [intP a, intP b] (lists (treesL a b))) : TabOK Try.prog 72 (tab_trees M) :=
  tabOf_ok (by rintro ⟨a, b⟩ h; exact ih a b h.1 h.2.1 h.2.2.1 h.2.2.2)
theorem trees_rec (M : Nat) (ih : ∀ a b : Int, 0 ≤ a → a ≤ b → b ≤ 7 → b - a < M → Ret Try.prog 72 [intP a, intP b] (lists (treesL a b))) (a b : Int) (h0 : 0 ≤ a) (h1 : a ≤ b) (h7 : b ≤ 7) (hM : b - a ≤ M) :
    Ret Try.prog 72 [intP a, intP b] (lists (treesL a b)) := by
  refine fn_of (T := [(72, [], tab_trees M)]) (N := 56) (RO := [14, 53]) (CH := [5, 42, 47, 52, 53, 54, 4040011]) (KS := [0, 1, 4, 5, 6, 7, 8, 9, 10, 13, 18, 31, 37]) (NS := [4, 5, 42, 47, 52, 54]) (fun args w => Try.call72 args w) Try.func72 rfl rfl (by simp) mixed (by kernel_rfl) ⟨tab_trees_ok M ih, trivial⟩ ?_
  by_cases he : a = b
  · subst he
    simp only [go_sem, ↓reduceIte, Nat.reduceLT, Nat.reduceLeDiff, Nat.reduceEqDiff, Nat.reduceAdd, Nat.reduceSub, Nat.reduceDiv, Nat.reduceMod, Nat.reduceMul, Nat.reduceBEq, Nat.reduceBNe, reduceCtorEq, Int.reduceLT, Int.reduceLE, Int.reduceEq, Int.reduceNe, Int.reduceBEq, Int.reduceBNe, Int.reduceAdd, Int.reduceSub, Int.reduceNeg, Int.reduceToNat, beq_self_eq_true]
    rw [treesL_one]
    refine ex_le ?_
    (repeat' (first | exact Le.refl _ | exact Le.nilS _ _ | exact Le.tight | refine Le.tuple ?_ | refine Le.list ?_ | refine Le.agg ?_ | refine LeL.cons ?_ ?_ | exact LeL.nil))
  · have e0 : (a == b) = false := by rw [beq_eq_false_iff_ne]; exact he
    simp only [go_sem, ↓reduceIte, Nat.reduceLT, Nat.reduceLeDiff, Nat.reduceEqDiff, Nat.reduceAdd, Nat.reduceSub, Nat.reduceDiv, Nat.reduceMod, Nat.reduceMul, Nat.reduceBEq, Nat.reduceBNe, reduceCtorEq, Int.reduceLT, Int.reduceLE, Int.reduceEq, Int.reduceNe, Int.reduceBEq, Int.reduceBNe, Int.reduceAdd, Int.reduceSub, Int.reduceNeg, Int.reduceToNat, e0]
    rw [treesL_step h0 (by omega)]
    refine vfor [0,1,5,6] [5] [.nilS 5 22 1] (b - a).toNat (fun _ => True) (fun i => ⟨[(0,.p (intP a)),(1,.p (intP b)),(5,.sl 5),(6,.p (intP (a + i)))], [(5,.vec 22 1 (lof ints (treesU a b i)))]⟩) (by first | rfl | (simp only [go_sem, ↓reduceIte, Nat.reduceLT, Nat.reduceLeDiff, Nat.reduceEqDiff, Nat.reduceAdd, Nat.reduceSub, Nat.reduceDiv, Nat.reduceMod, Nat.reduceMul, Nat.reduceBEq, Nat.reduceBNe, reduceCtorEq, Int.reduceLT, Int.reduceLE, Int.reduceEq, Int.reduceNe, Int.reduceBEq, Int.reduceBNe, Int.reduceAdd, Int.reduceSub, Int.reduceNeg, Int.reduceToNat, treesU_zero, Int.add_zero]; first | done | rfl)) trivial ?_
    intro i hi _
    by_cases hlt : a + (i : Int) < b
    · have hl1 := treesL_len (a := a) (b := a + (i : Int)) (by omega)
      have hl2 := treesL_len (a := a + (i : Int) + 1) (b := b) (by omega)
      have hm1 := treesL_mem (a := a) (b := a + (i : Int)) (by omega) (by omega)
      have hm2 := treesL_mem (a := a + (i : Int) + 1) (b := b) (by omega) (by omega)
      have hu := treesU_len (a := a) (b := b) (by omega) i (by omega)
      have hs := treesU_succ a b i
      have hx0 : treesU a b i = treesU a b i ++ prL (a + i) ([] : List (List Int)) (treesL (a + i + 1) b) := by simp [prL]
      simp only [go_sem, ↓reduceIte, Nat.reduceLT, Nat.reduceLeDiff, Nat.reduceEqDiff, Nat.reduceAdd, Nat.reduceSub, Nat.reduceDiv, Nat.reduceMod, Nat.reduceMul, Nat.reduceBEq, Nat.reduceBNe, reduceCtorEq, Int.reduceLT, Int.reduceLE, Int.reduceEq, Int.reduceNe, Int.reduceBEq, Int.reduceBNe, Int.reduceAdd, Int.reduceSub, Int.reduceNeg, Int.reduceToNat, hlt]
      (repeat with_reducible refine And.intro (by (repeat' with_reducible refine And.intro ?_ ?_) <;> first | with_reducible assumption | omega | (rw [InK_i64]; omega) | (rw [InK_u64]; omega) | (rw [InK_u8]; omega) | (unfold sz; omega) | exact True.intro) ?_)
      generalize treesL a (a + (i : Int)) = LL at *
      generalize treesL (a + (i : Int) + 1) b = RR at *
      generalize treesU a b i = UU at *
      refine vfor [0,1,5,6,7,8,9] [5] [] LL.length (fun _ => True) (fun x => ⟨[(0,.p (intP a)),(1,.p (intP b)),(5,.sl 5),(6,.p (intP (a + i))),(7,.p (lists LL)),(8,.p (lists RR)),(9,.p (natP x))], [(5,.vec 22 1 (lof ints (UU ++ prL (a + i) (LL.take x) RR)))]⟩) (by first | rfl | (simp only [go_sem, ↓reduceIte, Nat.reduceLT, Nat.reduceLeDiff, Nat.reduceEqDiff, Nat.reduceAdd, Nat.reduceSub, Nat.reduceDiv, Nat.reduceMod, Nat.reduceMul, Nat.reduceBEq, Nat.reduceBNe, reduceCtorEq, Int.reduceLT, Int.reduceLE, Int.reduceEq, Int.reduceNe, Int.reduceBEq, Int.reduceBNe, Int.reduceAdd, Int.reduceSub, Int.reduceNeg, Int.reduceToNat, List.take_zero, ← hx0]; first | done | rfl)) trivial ?_
      intro x hx _
      have hpl := prL_len (a + i) (LL.take x) RR
      have hpm : (LL.take x).length * RR.length ≤ 429 * 429 := Nat.mul_le_mul (by simp; omega) hl2
      by_cases hxl : x < LL.length
      · obtain ⟨l, hl⟩ := get_some hxl
        have hlm := hm1 l (List.mem_of_getElem? hl)
        have hpt := prL_take (a + i) LL RR hl
        simp only [go_sem, ↓reduceIte, Nat.reduceLT, Nat.reduceLeDiff, Nat.reduceEqDiff, Nat.reduceAdd, Nat.reduceSub, Nat.reduceDiv, Nat.reduceMod, Nat.reduceMul, Nat.reduceBEq, Nat.reduceBNe, reduceCtorEq, Int.reduceLT, Int.reduceLE, Int.reduceEq, Int.reduceNe, Int.reduceBEq, Int.reduceBNe, Int.reduceAdd, Int.reduceSub, Int.reduceNeg, Int.reduceToNat, hxl]
        refine vfor [0,1,5,6,7,8,9,10] [5] [] RR.length (fun _ => True) (fun y => ⟨[(0,.p (intP a)),(1,.p (intP b)),(5,.sl 5),(6,.p (intP (a + i))),(7,.p (lists LL)),(8,.p (lists RR)),(9,.p (natP x)),(10,.p (natP y))], [(5,.vec 22 1 (lof ints (UU ++ prL (a + i) (LL.take x) RR ++ (RR.take y).map fun r => (a + i) :: (l ++ r))))]⟩) (by first | rfl | (simp only [go_sem, ↓reduceIte, Nat.reduceLT, Nat.reduceLeDiff, Nat.reduceEqDiff, Nat.reduceAdd, Nat.reduceSub, Nat.reduceDiv, Nat.reduceMod, Nat.reduceMul, Nat.reduceBEq, Nat.reduceBNe, reduceCtorEq, Int.reduceLT, Int.reduceLE, Int.reduceEq, Int.reduceNe, Int.reduceBEq, Int.reduceBNe, Int.reduceAdd, Int.reduceSub, Int.reduceNeg, Int.reduceToNat, List.take_zero, List.map_nil, List.append_nil]; first | done | rfl)) trivial ?_
        intro y hy _
        by_cases hyl : y < RR.length
        · obtain ⟨r, hr⟩ := get_some hyl
          have hrm := hm2 r (List.mem_of_getElem? hr)
          have hmt := map_take (fun r => (a + i) :: (l ++ r)) hr
          simp only [go_sem, ↓reduceIte, Nat.reduceLT, Nat.reduceLeDiff, Nat.reduceEqDiff, Nat.reduceAdd, Nat.reduceSub, Nat.reduceDiv, Nat.reduceMod, Nat.reduceMul, Nat.reduceBEq, Nat.reduceBNe, reduceCtorEq, Int.reduceLT, Int.reduceLE, Int.reduceEq, Int.reduceNe, Int.reduceBEq, Int.reduceBNe, Int.reduceAdd, Int.reduceSub, Int.reduceNeg, Int.reduceToNat, hyl, hxl, lof_getD hl, lof_getD hr]
          refine ⟨by omega, by omega, ?_, by rw [InK_i64]; omega, ?_⟩
          · simp only [List.length_append, List.length_map, List.length_take, hpl]
            have : min y RR.length ≤ RR.length := Nat.min_le_right _ _
            simp only [List.length_take] at hpm
            omega
          · have e : ∀ X : List (List Int), lof ints X ++ [PV.list LM.any 1 (intP (a + i) :: (lof intP l ++ lof intP r))] = lof ints (X ++ [(a + i) :: (l ++ r)]) := by intro X; simp [lof]
            rw [e, hmt, ← List.append_assoc]; rfl
        · simp only [go_sem, ↓reduceIte, Nat.reduceLT, Nat.reduceLeDiff, Nat.reduceEqDiff, Nat.reduceAdd, Nat.reduceSub, Nat.reduceDiv, Nat.reduceMod, Nat.reduceMul, Nat.reduceBEq, Nat.reduceBNe, reduceCtorEq, Int.reduceLT, Int.reduceLE, Int.reduceEq, Int.reduceNe, Int.reduceBEq, Int.reduceBNe, Int.reduceAdd, Int.reduceSub, Int.reduceNeg, Int.reduceToNat, hyl]
          obtain rfl : y = RR.length := by omega
          rw [List.take_length, List.append_assoc, ← hpt]
          exact ⟨by rw [InK_i64]; omega, hxl, rfl⟩
      · simp only [go_sem, ↓reduceIte, Nat.reduceLT, Nat.reduceLeDiff, Nat.reduceEqDiff, Nat.reduceAdd, Nat.reduceSub, Nat.reduceDiv, Nat.reduceMod, Nat.reduceMul, Nat.reduceBEq, Nat.reduceBNe, reduceCtorEq, Int.reduceLT, Int.reduceLE, Int.reduceEq, Int.reduceNe, Int.reduceBEq, Int.reduceBNe, Int.reduceAdd, Int.reduceSub, Int.reduceNeg, Int.reduceToNat, hxl]
        obtain rfl : x = LL.length := by omega
        rw [List.take_length, ← hs, Int.natCast_add, ← Int.add_assoc]
        exact ⟨by rw [InK_i64]; omega, by omega, rfl⟩
    · simp only [go_sem, ↓reduceIte, Nat.reduceLT, Nat.reduceLeDiff, Nat.reduceEqDiff, Nat.reduceAdd, Nat.reduceSub, Nat.reduceDiv, Nat.reduceMod, Nat.reduceMul, Nat.reduceBEq, Nat.reduceBNe, reduceCtorEq, Int.reduceLT, Int.reduceLE, Int.reduceEq, Int.reduceNe, Int.reduceBEq, Int.reduceBNe, Int.reduceAdd, Int.reduceSub, Int.reduceNeg, Int.reduceToNat, hlt]
      obtain rfl : i = (b - a).toNat := by omega
      exact ex_le_refl rfl
theorem trees_all : ∀ (M : Nat) (a b : Int), 0 ≤ a → a ≤ b → b ≤ 7 → b - a < M → Ret Try.prog 72 [intP a, intP b] (lists (treesL a b))
  | 0, _, _, _, _, _, h => by omega
  | M + 1, a, b, h0, h1, h7, h => trees_rec M (fun a b h0 h1 h7 h => trees_all M a b h0 h1 h7 h) a b h0 h1 h7 (by omega)
noncomputable abbrev ent_trees : FuncId × List Nat × Tab := (72, [], tab_trees 9)
theorem tab_trees9_ok : TabOK Try.prog 72 (tab_trees 9) := tab_trees_ok 9 (trees_all 9)
end Go.V
