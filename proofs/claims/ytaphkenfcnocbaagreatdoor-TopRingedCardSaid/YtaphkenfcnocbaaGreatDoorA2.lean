/-
  Contracts of small functions of chapter 02. Conditions: none.
  The reductions of numerals and of ifs, put into the semantics' own set of simp rules, so that the long lists need not be written out.
-/
import Derived.Test.YtaphkenfcnocbaaGreatDoorTopGT
import Derived.Test.YtaphkenfcnocbaaGreatDoorVObj
import Derived.Test.YtaphkenfcnocbaaGreatDoorP2o
set_option linter.unusedVariables false
set_option linter.unusedSimpArgs false
set_option linter.deprecated false
namespace Go.V
open Go.Proofs
set_option maxRecDepth 10000
set_option maxHeartbeats 1000000

abbrev errP (n : Int) : PV := .val (.int .i64 n)
abbrev boolP (b : Bool) : PV := .val (.bool b)
/-- streets, and a map -/
abbrev stI (e : R2.EI) : PV := .agg [intP e.a, intP e.b]
abbrev stN (e : R2.E) : PV := .agg [natP e.a, natP e.b]
abbrev strI (L : List R2.EI) : PV := .list .any 2 (lof stI L)
abbrev strN (L : R2.G) : PV := .list .any 2 (lof stN L)
abbrev mapI (n : Int) (L : List R2.EI) : PV := .agg [intP n, strI L]
abbrev mapN (n : Nat) (L : R2.G) : PV := .agg [natP n, strN L]
abbrev lists (l : List (List Int)) : PV := .list .any 1 (lof ints l)
/-- the sizes at which the contracts are proved -/
abbrev sz (n : Nat) : Prop := n ≤ 16777216
theorem lof_inj {α : Type} {f : α → PV} (hf : ∀ a b, f a = f b → a = b) {l l' : List α} : lof f l = lof f l' ↔ l = l' := by
  constructor
  · intro h
    induction l generalizing l' with
    | nil => cases l' <;> simp_all [lof]
    | cons x l ih => cases l' with
      | nil => simp [lof] at h
      | cons y l' => simp only [lof, List.map_cons, List.cons.injEq] at h; rw [hf _ _ h.1, ih h.2]
  · intro h; rw [h]
@[simp] theorem lof_intP_inj {l l' : List Int} : lof intP l = lof intP l' ↔ l = l' := lof_inj (by intro a b h; simpa using h)
@[simp] theorem lof_ints_inj {l l' : List (List Int)} : lof ints l = lof ints l' ↔ l = l' := lof_inj (by intro a b h; simpa using h)
theorem get_some {α : Type} {l : List α} {k : Nat} (h : k < l.length) : ∃ x, l[k]? = some x := ⟨l[k], by simp [h]⟩
theorem take_succ_of {α : Type} {l : List α} {k : Nat} {x : α} (hx : l[k]? = some x) : l.take (k + 1) = l.take k ++ [x] := by
  rw [List.take_add_one, hx]; rfl

@[simp] theorem lof_stI_inj {l l' : List R2.EI} : lof stI l = lof stI l' ↔ l = l' := lof_inj (by rintro ⟨a, b⟩ ⟨c, d⟩ h; simp at h; simp; omega)
@[simp] theorem lof_stN_inj {l l' : List R2.E} : lof stN l = lof stN l' ↔ l = l' := lof_inj (by rintro ⟨a, b⟩ ⟨c, d⟩ h; simp at h; simp; omega)
@[go_sem] theorem strI_snoc (l : List R2.EI) (a b : Int) : lof stI l ++ [.agg [.val (.int .i64 a), .val (.int .i64 b)]] = lof stI (l ++ [⟨a, b⟩]) := by simp [lof]
/-- a map that passes the check, with numbers that are not negative -/
theorem lof_nat {n : Int} {L : List R2.EI} (h : ∀ e ∈ L, 0 ≤ e.a ∧ e.a < e.b ∧ e.b < n) : lof stI L = lof stN (R2.natL L) := by
  unfold lof R2.natL
  rw [List.map_map]
  apply List.map_congr_left
  intro e he
  have := h e he
  show PV.agg [intP e.a, intP e.b] = PV.agg [intP (e.a.toNat : Int), intP (e.b.toNat : Int)]
  rw [Int.toNat_of_nonneg this.1, Int.toNat_of_nonneg (show 0 ≤ e.b by omega)]

theorem wrong2_spec (x : Int) (n : Int) (hpre : True) : Ret Tryz.prog 92 [intP x, intP n] (boolP (decide (x < 0) || decide (n ≤ x))) := by
  refine fn_of (T := []) (N := 12) (RO := []) (CH := []) (KS := [0, 1, 4]) (NS := []) (fun args w => Tryz.call92 args w) Tryz.func92 rfl rfl (by simp) mixed (by kernel_rfl) trivial ?_
  simp only [go_sem, ↓reduceIte, Nat.reduceLT, Nat.reduceLeDiff, Nat.reduceEqDiff, Nat.reduceAdd, Nat.reduceSub, Nat.reduceDiv, Nat.reduceMod, Nat.reduceMul, Nat.reduceBEq, Nat.reduceBNe, reduceCtorEq, Int.reduceLT, Int.reduceLE, Int.reduceEq, Int.reduceNe, Int.reduceBEq, Int.reduceBNe, Int.reduceAdd, Int.reduceSub, Int.reduceNeg, Int.reduceToNat]
  by_cases h1 : x < 0
  · simp only [go_sem, ↓reduceIte, Nat.reduceLT, Nat.reduceLeDiff, Nat.reduceEqDiff, Nat.reduceAdd, Nat.reduceSub, Nat.reduceDiv, Nat.reduceMod, Nat.reduceMul, Nat.reduceBEq, Nat.reduceBNe, reduceCtorEq, Int.reduceLT, Int.reduceLE, Int.reduceEq, Int.reduceNe, Int.reduceBEq, Int.reduceBNe, Int.reduceAdd, Int.reduceSub, Int.reduceNeg, Int.reduceToNat, h1]
    exact ex_le_refl (by simp [h1])
  · simp only [go_sem, ↓reduceIte, Nat.reduceLT, Nat.reduceLeDiff, Nat.reduceEqDiff, Nat.reduceAdd, Nat.reduceSub, Nat.reduceDiv, Nat.reduceMod, Nat.reduceMul, Nat.reduceBEq, Nat.reduceBNe, reduceCtorEq, Int.reduceLT, Int.reduceLE, Int.reduceEq, Int.reduceNe, Int.reduceBEq, Int.reduceBNe, Int.reduceAdd, Int.reduceSub, Int.reduceNeg, Int.reduceToNat, h1]
    exact ex_le_refl (by simp [h1])
noncomputable def tab_wrong2 : Tab := tabOf (fun p : (Int) × (Int) => match p with | (x, n) => [intP x, intP n]) (fun p : (Int) × (Int) => match p with | (x, n) => True) (fun p : (Int) × (Int) => match p with | (x, n) => boolP (decide (x < 0) || decide (n ≤ x)))
theorem tab_wrong2_eq (x : Int) (n : Int) : tab_wrong2 [intP x, intP n] = some (True, .p (boolP (decide (x < 0) || decide (n ≤ x)))) := tabOf_eq (enc := fun p : (Int) × (Int) => match p with | (x, n) => [intP x, intP n]) (pre := fun p : (Int) × (Int) => match p with | (x, n) => True) (out := fun p : (Int) × (Int) => match p with | (x, n) => boolP (decide (x < 0) || decide (n ≤ x))) (by rintro ⟨x, n⟩ ⟨x', n'⟩ h; simp at h; first | (simp [h]; done) | omega | (simp [h]; omega)) (x, n)
theorem tab_wrong2_ok : TabOK Tryz.prog 92 tab_wrong2 := tabOf_ok (by rintro ⟨x, n⟩ h; exact wrong2_spec x n h)
noncomputable abbrev ent_wrong2 : FuncId × List Nat × Tab := (92, [], tab_wrong2)
attribute [go_sem] tab_wrong2_eq


end Go.V

set_option linter.unusedVariables false
namespace Go.V
attribute [go_sem_proc ↓] reduceIte
attribute [go_sem_proc] Nat.reduceLT Nat.reduceLeDiff Nat.reduceEqDiff Nat.reduceAdd Nat.reduceSub Nat.reduceDiv Nat.reduceMod Nat.reduceMul Nat.reduceBEq Nat.reduceBNe reduceCtorEq Int.reduceLT Int.reduceLE Int.reduceEq Int.reduceNe Int.reduceBEq Int.reduceBNe Int.reduceAdd Int.reduceSub Int.reduceNeg Int.reduceToNat
end Go.V
