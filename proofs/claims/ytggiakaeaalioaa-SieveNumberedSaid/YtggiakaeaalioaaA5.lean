/-
  Contracts of small functions of chapter 05. Conditions: none.
  What the functions of chapter 05 return, in plain words. Conditions: none.
  Contracts of chapter 05: slices.BinarySearch of numbers that rise. Conditions: none.
-/
import Derived.Test.YtggiakaeaalioaaS5T
import Derived.Test.YtggiakaeaalioaaVObj
import Derived.Test.YtggiakaeaalioaaP5a
set_option linter.unusedVariables false
set_option linter.unusedSimpArgs false
set_option linter.deprecated false
namespace Go.V
open Go.Proofs
set_option maxRecDepth 10000
set_option maxHeartbeats 1000000

abbrev errP (n : Int) : PV := .val (.int .i64 n)
abbrev boolP (b : Bool) : PV := .val (.bool b)
abbrev lists (l : List (List Int)) : PV := .list .any 1 (lof ints l)
/-- the sizes at which the contracts are proved -/
abbrev sz (n : Nat) : Prop := n ≤ 16777216
theorem InK64_nat {k n : Nat} (h : sz n) (hk : k < n) : InK .i64 ((k : Int) + 1) := ⟨by simp only [IntKind.lo]; omega, by simp only [IntKind.hi]; omega⟩
theorem lof_inj {α : Type} {f : α → PV} (hf : ∀ a b, f a = f b → a = b) {l l' : List α} : lof f l = lof f l' ↔ l = l' := by
  constructor
  · intro h
    induction l generalizing l' with
    | nil => cases l' <;> simp_all [lof]
    | cons x l ih => cases l' with
      | nil => simp [lof] at h
      | cons y l' => simp only [lof, List.map_cons, List.cons.injEq] at h; rw [hf _ _ h.1, ih h.2]
  · intro h; rw [h]
@[simp] theorem lof_intP_inj {l l' : List Int} : lof intP l = lof intP l' ↔ l = l' := lof_inj (by intro a b h; simpa using h)
@[simp] theorem lof_ints_inj {l l' : List (List Int)} : lof ints l = lof ints l' ↔ l = l' := lof_inj (by intro a b h; simpa using h)
theorem get_some {α : Type} {l : List α} {k : Nat} (h : k < l.length) : ∃ x, l[k]? = some x := ⟨l[k], by simp [h]⟩
theorem take_succ_of {α : Type} {l : List α} {k : Nat} {x : α} (hx : l[k]? = some x) : l.take (k + 1) = l.take k ++ [x] := by
  rw [List.take_succ, hx]; rfl

/-- a number is from lo to hi -/
def inB (n lo hi : Int) : Bool := decide (lo ≤ n) && decide (n ≤ hi)

theorem in5_spec (n : Int) (lo : Int) (hi : Int) (hpre : True) : Ret Try.prog 67 [intP n, intP lo, intP hi] (boolP (inB n lo hi)) := by
  refine fn_of (T := []) (N := 15) (RO := []) (CH := []) (KS := [0, 1, 2, 6]) (NS := []) (fun args w => Try.call67 args w) Try.func67 rfl rfl (by simp) mixed (by kernel_rfl) trivial ?_
  simp only [go_sem, ↓reduceIte, Nat.reduceLT, Nat.reduceLeDiff, Nat.reduceEqDiff, Nat.reduceAdd, Nat.reduceSub, Nat.reduceDiv, Nat.reduceMod, Nat.reduceMul, Nat.reduceBEq, Nat.reduceBNe, reduceCtorEq, Int.reduceLT, Int.reduceLE, Int.reduceEq, Int.reduceNe, Int.reduceBEq, Int.reduceBNe, Int.reduceAdd, Int.reduceSub, Int.reduceNeg, Int.reduceToNat]
  by_cases h1 : lo ≤ n
  · simp only [go_sem, ↓reduceIte, Nat.reduceLT, Nat.reduceLeDiff, Nat.reduceEqDiff, Nat.reduceAdd, Nat.reduceSub, Nat.reduceDiv, Nat.reduceMod, Nat.reduceMul, Nat.reduceBEq, Nat.reduceBNe, reduceCtorEq, Int.reduceLT, Int.reduceLE, Int.reduceEq, Int.reduceNe, Int.reduceBEq, Int.reduceBNe, Int.reduceAdd, Int.reduceSub, Int.reduceNeg, Int.reduceToNat, h1]
    exact ex_le_refl (by simp [inB, h1])
  · simp only [go_sem, ↓reduceIte, Nat.reduceLT, Nat.reduceLeDiff, Nat.reduceEqDiff, Nat.reduceAdd, Nat.reduceSub, Nat.reduceDiv, Nat.reduceMod, Nat.reduceMul, Nat.reduceBEq, Nat.reduceBNe, reduceCtorEq, Int.reduceLT, Int.reduceLE, Int.reduceEq, Int.reduceNe, Int.reduceBEq, Int.reduceBNe, Int.reduceAdd, Int.reduceSub, Int.reduceNeg, Int.reduceToNat, h1]
    exact ex_le_refl (by simp [inB, h1])
noncomputable def tab_in5 : Tab := tabOf (fun p : (Int) × (Int) × (Int) => match p with | (n, lo, hi) => [intP n, intP lo, intP hi]) (fun p : (Int) × (Int) × (Int) => match p with | (n, lo, hi) => True) (fun p : (Int) × (Int) × (Int) => match p with | (n, lo, hi) => boolP (inB n lo hi))
theorem tab_in5_eq (n : Int) (lo : Int) (hi : Int) : tab_in5 [intP n, intP lo, intP hi] = some (True, .p (boolP (inB n lo hi))) := tabOf_eq (enc := fun p : (Int) × (Int) × (Int) => match p with | (n, lo, hi) => [intP n, intP lo, intP hi]) (pre := fun p : (Int) × (Int) × (Int) => match p with | (n, lo, hi) => True) (out := fun p : (Int) × (Int) × (Int) => match p with | (n, lo, hi) => boolP (inB n lo hi)) (by rintro ⟨n, lo, hi⟩ ⟨n', lo', hi'⟩ h; simp at h; first | (simp [h]; done) | omega | (simp [h]; omega)) (n, lo, hi)
theorem tab_in5_ok : TabOK Try.prog 67 tab_in5 := tabOf_ok (by rintro ⟨n, lo, hi⟩ h; exact in5_spec n lo hi h)
noncomputable abbrev ent_in5 : FuncId × List Nat × Tab := (67, [], tab_in5)
attribute [go_sem] tab_in5_eq

theorem within_spec (n : Int) (lo : Int) (hi : Int) (hpre : True) : Ret Try.prog 70 [intP n, intP lo, intP hi] (boolP (inB n lo hi)) := by
  refine fn_of (T := []) (N := 15) (RO := []) (CH := []) (KS := [0, 1, 2, 6]) (NS := []) (fun args w => Try.call70 args w) Try.func70 rfl rfl (by simp) mixed (by kernel_rfl) trivial ?_
  simp only [go_sem, ↓reduceIte, Nat.reduceLT, Nat.reduceLeDiff, Nat.reduceEqDiff, Nat.reduceAdd, Nat.reduceSub, Nat.reduceDiv, Nat.reduceMod, Nat.reduceMul, Nat.reduceBEq, Nat.reduceBNe, reduceCtorEq, Int.reduceLT, Int.reduceLE, Int.reduceEq, Int.reduceNe, Int.reduceBEq, Int.reduceBNe, Int.reduceAdd, Int.reduceSub, Int.reduceNeg, Int.reduceToNat]
  by_cases h1 : lo ≤ n
  · simp only [go_sem, ↓reduceIte, Nat.reduceLT, Nat.reduceLeDiff, Nat.reduceEqDiff, Nat.reduceAdd, Nat.reduceSub, Nat.reduceDiv, Nat.reduceMod, Nat.reduceMul, Nat.reduceBEq, Nat.reduceBNe, reduceCtorEq, Int.reduceLT, Int.reduceLE, Int.reduceEq, Int.reduceNe, Int.reduceBEq, Int.reduceBNe, Int.reduceAdd, Int.reduceSub, Int.reduceNeg, Int.reduceToNat, h1]
    exact ex_le_refl (by simp [inB, h1])
  · simp only [go_sem, ↓reduceIte, Nat.reduceLT, Nat.reduceLeDiff, Nat.reduceEqDiff, Nat.reduceAdd, Nat.reduceSub, Nat.reduceDiv, Nat.reduceMod, Nat.reduceMul, Nat.reduceBEq, Nat.reduceBNe, reduceCtorEq, Int.reduceLT, Int.reduceLE, Int.reduceEq, Int.reduceNe, Int.reduceBEq, Int.reduceBNe, Int.reduceAdd, Int.reduceSub, Int.reduceNeg, Int.reduceToNat, h1]
    exact ex_le_refl (by simp [inB, h1])
noncomputable def tab_within : Tab := tabOf (fun p : (Int) × (Int) × (Int) => match p with | (n, lo, hi) => [intP n, intP lo, intP hi]) (fun p : (Int) × (Int) × (Int) => match p with | (n, lo, hi) => True) (fun p : (Int) × (Int) × (Int) => match p with | (n, lo, hi) => boolP (inB n lo hi))
theorem tab_within_eq (n : Int) (lo : Int) (hi : Int) : tab_within [intP n, intP lo, intP hi] = some (True, .p (boolP (inB n lo hi))) := tabOf_eq (enc := fun p : (Int) × (Int) × (Int) => match p with | (n, lo, hi) => [intP n, intP lo, intP hi]) (pre := fun p : (Int) × (Int) × (Int) => match p with | (n, lo, hi) => True) (out := fun p : (Int) × (Int) × (Int) => match p with | (n, lo, hi) => boolP (inB n lo hi)) (by rintro ⟨n, lo, hi⟩ ⟨n', lo', hi'⟩ h; simp at h; first | (simp [h]; done) | omega | (simp [h]; omega)) (n, lo, hi)
theorem tab_within_ok : TabOK Try.prog 70 tab_within := tabOf_ok (by rintro ⟨n, lo, hi⟩ h; exact within_spec n lo hi h)
noncomputable abbrev ent_within : FuncId × List Nat × Tab := (70, [], tab_within)
attribute [go_sem] tab_within_eq

theorem list5_spec (l : List Int) (hpre : True) : Ret Try.prog 49 [ints l] (ints l) := by
  refine fn_of (T := []) (N := 4) (RO := []) (CH := []) (KS := [0, 2]) (NS := []) (fun args w => Try.call49 args w) Try.func49 rfl rfl (by simp) mixed (by kernel_rfl) trivial ?_
  simp only [go_sem, ↓reduceIte, Nat.reduceLT, Nat.reduceLeDiff, Nat.reduceEqDiff, Nat.reduceAdd, Nat.reduceSub, Nat.reduceDiv, Nat.reduceMod, Nat.reduceMul, Nat.reduceBEq, Nat.reduceBNe, reduceCtorEq, Int.reduceLT, Int.reduceLE, Int.reduceEq, Int.reduceNe, Int.reduceBEq, Int.reduceBNe, Int.reduceAdd, Int.reduceSub, Int.reduceNeg, Int.reduceToNat]
  exact ex_le_refl rfl
noncomputable def tab_list5 : Tab := tabOf (fun p : (List Int) => match p with | l => [ints l]) (fun p : (List Int) => match p with | l => True) (fun p : (List Int) => match p with | l => ints l)
theorem tab_list5_eq (l : List Int) : tab_list5 [ints l] = some (True, .p (ints l)) := tabOf_eq (enc := fun p : (List Int) => match p with | l => [ints l]) (pre := fun p : (List Int) => match p with | l => True) (out := fun p : (List Int) => match p with | l => ints l) (by rintro l l' h; simp at h; first | (simp [h]; done) | omega | (simp [h]; omega)) (l)
theorem tab_list5_ok : TabOK Try.prog 49 tab_list5 := tabOf_ok (by rintro l h; exact list5_spec l h)
noncomputable abbrev ent_list5 : FuncId × List Nat × Tab := (49, [1], tab_list5)
attribute [go_sem] tab_list5_eq

theorem same5_spec (a : List Int) (b : List Int) (hpre : sz a.length ∧ sz b.length) : Ret Try.prog 24 [ints a, ints b] (boolP (decide (a = b))) := by
  refine fn_of (T := []) (N := 26) (RO := []) (CH := []) (KS := [0, 1, 4, 5, 10, 14, 25]) (NS := []) (fun args w => Try.call24 args w) Try.func24 rfl rfl (by simp) mixed (by kernel_rfl) trivial ?_
  simp only [go_sem, ↓reduceIte, Nat.reduceLT, Nat.reduceLeDiff, Nat.reduceEqDiff, Nat.reduceAdd, Nat.reduceSub, Nat.reduceDiv, Nat.reduceMod, Nat.reduceMul, Nat.reduceBEq, Nat.reduceBNe, reduceCtorEq, Int.reduceLT, Int.reduceLE, Int.reduceEq, Int.reduceNe, Int.reduceBEq, Int.reduceBNe, Int.reduceAdd, Int.reduceSub, Int.reduceNeg, Int.reduceToNat]
  by_cases hl : a.length = b.length
  · have e0 : ((a.length : Int) != (b.length : Int)) = false := by simp [hl]
    simp only [go_sem, ↓reduceIte, Nat.reduceLT, Nat.reduceLeDiff, Nat.reduceEqDiff, Nat.reduceAdd, Nat.reduceSub, Nat.reduceDiv, Nat.reduceMod, Nat.reduceMul, Nat.reduceBEq, Nat.reduceBNe, reduceCtorEq, Int.reduceLT, Int.reduceLE, Int.reduceEq, Int.reduceNe, Int.reduceBEq, Int.reduceBNe, Int.reduceAdd, Int.reduceSub, Int.reduceNeg, Int.reduceToNat, e0]
    refine vfor [0,1,5] [] [] a.length (fun k => a.take k = b.take k) (fun k => ⟨[(0,.p (ints a)),(1,.p (ints b)),(5,.p (natP k))], []⟩) (by first | rfl | (simp only [go_sem, ↓reduceIte, Nat.reduceLT, Nat.reduceLeDiff, Nat.reduceEqDiff, Nat.reduceAdd, Nat.reduceSub, Nat.reduceDiv, Nat.reduceMod, Nat.reduceMul, Nat.reduceBEq, Nat.reduceBNe, reduceCtorEq, Int.reduceLT, Int.reduceLE, Int.reduceEq, Int.reduceNe, Int.reduceBEq, Int.reduceBNe, Int.reduceAdd, Int.reduceSub, Int.reduceNeg, Int.reduceToNat]; first | done | rfl)) (by simp) ?_
    intro k hk hI
    by_cases hlt : k < a.length
    · obtain ⟨x, hx⟩ := get_some hlt
      obtain ⟨y, hy⟩ := get_some (show k < b.length by omega)
      by_cases hxy : x = y
      · subst hxy
        simp only [go_sem, ↓reduceIte, Nat.reduceLT, Nat.reduceLeDiff, Nat.reduceEqDiff, Nat.reduceAdd, Nat.reduceSub, Nat.reduceDiv, Nat.reduceMod, Nat.reduceMul, Nat.reduceBEq, Nat.reduceBNe, reduceCtorEq, Int.reduceLT, Int.reduceLE, Int.reduceEq, Int.reduceNe, Int.reduceBEq, Int.reduceBNe, Int.reduceAdd, Int.reduceSub, Int.reduceNeg, Int.reduceToNat, hlt, lof_getD hx, lof_getD hy, bne_self_eq_false, show k < b.length by omega]
        have hI' : a.take (k + 1) = b.take (k + 1) := by rw [take_succ_of hx, take_succ_of hy, hI]
        obtain ⟨hp1, hp2⟩ := hpre
        (repeat' (first | assumption | (rw [InK_i64]; omega) | (rw [InK_u8]; omega) | (rw [InK_u64]; omega) | omega | rfl | apply And.intro))
      · simp only [go_sem, ↓reduceIte, Nat.reduceLT, Nat.reduceLeDiff, Nat.reduceEqDiff, Nat.reduceAdd, Nat.reduceSub, Nat.reduceDiv, Nat.reduceMod, Nat.reduceMul, Nat.reduceBEq, Nat.reduceBNe, reduceCtorEq, Int.reduceLT, Int.reduceLE, Int.reduceEq, Int.reduceNe, Int.reduceBEq, Int.reduceBNe, Int.reduceAdd, Int.reduceSub, Int.reduceNeg, Int.reduceToNat, hlt, lof_getD hx, lof_getD hy, show (x != y) = true by simp [hxy], show k < b.length by omega]
        refine ex_le_refl ?_
        have : a ≠ b := by rintro rfl; rw [hx] at hy; simp at hy; exact hxy hy
        simp [this]
    · simp only [go_sem, ↓reduceIte, Nat.reduceLT, Nat.reduceLeDiff, Nat.reduceEqDiff, Nat.reduceAdd, Nat.reduceSub, Nat.reduceDiv, Nat.reduceMod, Nat.reduceMul, Nat.reduceBEq, Nat.reduceBNe, reduceCtorEq, Int.reduceLT, Int.reduceLE, Int.reduceEq, Int.reduceNe, Int.reduceBEq, Int.reduceBNe, Int.reduceAdd, Int.reduceSub, Int.reduceNeg, Int.reduceToNat, hlt]
      have e1 : a.take k = a := List.take_of_length_le (by omega)
      have e2 : b.take k = b := List.take_of_length_le (by omega)
      rw [e1, e2] at hI
      exact ex_le_refl (by simp [hI])
  · have e0 : ((a.length : Int) != (b.length : Int)) = true := by simp; omega
    simp only [go_sem, ↓reduceIte, Nat.reduceLT, Nat.reduceLeDiff, Nat.reduceEqDiff, Nat.reduceAdd, Nat.reduceSub, Nat.reduceDiv, Nat.reduceMod, Nat.reduceMul, Nat.reduceBEq, Nat.reduceBNe, reduceCtorEq, Int.reduceLT, Int.reduceLE, Int.reduceEq, Int.reduceNe, Int.reduceBEq, Int.reduceBNe, Int.reduceAdd, Int.reduceSub, Int.reduceNeg, Int.reduceToNat, e0]
    have : a ≠ b := by rintro rfl; exact hl rfl
    exact ex_le_refl (by simp [this])
noncomputable def tab_same5 : Tab := tabOf (fun p : (List Int) × (List Int) => match p with | (a, b) => [ints a, ints b]) (fun p : (List Int) × (List Int) => match p with | (a, b) => sz a.length ∧ sz b.length) (fun p : (List Int) × (List Int) => match p with | (a, b) => boolP (decide (a = b)))
theorem tab_same5_eq (a : List Int) (b : List Int) : tab_same5 [ints a, ints b] = some (sz a.length ∧ sz b.length, .p (boolP (decide (a = b)))) := tabOf_eq (enc := fun p : (List Int) × (List Int) => match p with | (a, b) => [ints a, ints b]) (pre := fun p : (List Int) × (List Int) => match p with | (a, b) => sz a.length ∧ sz b.length) (out := fun p : (List Int) × (List Int) => match p with | (a, b) => boolP (decide (a = b))) (by rintro ⟨a, b⟩ ⟨a', b'⟩ h; simp at h; first | (simp [h]; done) | omega | (simp [h]; omega)) (a, b)
theorem tab_same5_ok : TabOK Try.prog 24 tab_same5 := tabOf_ok (by rintro ⟨a, b⟩ h; exact same5_spec a b h)
noncomputable abbrev ent_same5 : FuncId × List Nat × Tab := (24, [1, 1], tab_same5)
attribute [go_sem] tab_same5_eq

theorem same5r_spec (a : List Int) (b : List Int) (hpre : sz a.length ∧ sz b.length) : Ret Try.prog 76 [ints a, ints b] (boolP (decide (a = b))) := by
  refine fn_of (T := []) (N := 26) (RO := []) (CH := []) (KS := [0, 1, 4, 5, 10, 14, 25]) (NS := []) (fun args w => Try.call76 args w) Try.func76 rfl rfl (by simp) mixed (by kernel_rfl) trivial ?_
  simp only [go_sem, ↓reduceIte, Nat.reduceLT, Nat.reduceLeDiff, Nat.reduceEqDiff, Nat.reduceAdd, Nat.reduceSub, Nat.reduceDiv, Nat.reduceMod, Nat.reduceMul, Nat.reduceBEq, Nat.reduceBNe, reduceCtorEq, Int.reduceLT, Int.reduceLE, Int.reduceEq, Int.reduceNe, Int.reduceBEq, Int.reduceBNe, Int.reduceAdd, Int.reduceSub, Int.reduceNeg, Int.reduceToNat]
  by_cases hl : a.length = b.length
  · have e0 : ((a.length : Int) != (b.length : Int)) = false := by simp [hl]
    simp only [go_sem, ↓reduceIte, Nat.reduceLT, Nat.reduceLeDiff, Nat.reduceEqDiff, Nat.reduceAdd, Nat.reduceSub, Nat.reduceDiv, Nat.reduceMod, Nat.reduceMul, Nat.reduceBEq, Nat.reduceBNe, reduceCtorEq, Int.reduceLT, Int.reduceLE, Int.reduceEq, Int.reduceNe, Int.reduceBEq, Int.reduceBNe, Int.reduceAdd, Int.reduceSub, Int.reduceNeg, Int.reduceToNat, e0]
    refine vfor [0,1,5] [] [] a.length (fun k => a.take k = b.take k) (fun k => ⟨[(0,.p (ints a)),(1,.p (ints b)),(5,.p (natP k))], []⟩) (by first | rfl | (simp only [go_sem, ↓reduceIte, Nat.reduceLT, Nat.reduceLeDiff, Nat.reduceEqDiff, Nat.reduceAdd, Nat.reduceSub, Nat.reduceDiv, Nat.reduceMod, Nat.reduceMul, Nat.reduceBEq, Nat.reduceBNe, reduceCtorEq, Int.reduceLT, Int.reduceLE, Int.reduceEq, Int.reduceNe, Int.reduceBEq, Int.reduceBNe, Int.reduceAdd, Int.reduceSub, Int.reduceNeg, Int.reduceToNat]; first | done | rfl)) (by simp) ?_
    intro k hk hI
    by_cases hlt : k < a.length
    · obtain ⟨x, hx⟩ := get_some hlt
      obtain ⟨y, hy⟩ := get_some (show k < b.length by omega)
      by_cases hxy : x = y
      · subst hxy
        simp only [go_sem, ↓reduceIte, Nat.reduceLT, Nat.reduceLeDiff, Nat.reduceEqDiff, Nat.reduceAdd, Nat.reduceSub, Nat.reduceDiv, Nat.reduceMod, Nat.reduceMul, Nat.reduceBEq, Nat.reduceBNe, reduceCtorEq, Int.reduceLT, Int.reduceLE, Int.reduceEq, Int.reduceNe, Int.reduceBEq, Int.reduceBNe, Int.reduceAdd, Int.reduceSub, Int.reduceNeg, Int.reduceToNat, hlt, lof_getD hx, lof_getD hy, bne_self_eq_false, show k < b.length by omega]
        have hI' : a.take (k + 1) = b.take (k + 1) := by rw [take_succ_of hx, take_succ_of hy, hI]
        obtain ⟨hp1, hp2⟩ := hpre
        (repeat' (first | assumption | (rw [InK_i64]; omega) | (rw [InK_u8]; omega) | (rw [InK_u64]; omega) | omega | rfl | apply And.intro))
      · simp only [go_sem, ↓reduceIte, Nat.reduceLT, Nat.reduceLeDiff, Nat.reduceEqDiff, Nat.reduceAdd, Nat.reduceSub, Nat.reduceDiv, Nat.reduceMod, Nat.reduceMul, Nat.reduceBEq, Nat.reduceBNe, reduceCtorEq, Int.reduceLT, Int.reduceLE, Int.reduceEq, Int.reduceNe, Int.reduceBEq, Int.reduceBNe, Int.reduceAdd, Int.reduceSub, Int.reduceNeg, Int.reduceToNat, hlt, lof_getD hx, lof_getD hy, show (x != y) = true by simp [hxy], show k < b.length by omega]
        refine ex_le_refl ?_
        have : a ≠ b := by rintro rfl; rw [hx] at hy; simp at hy; exact hxy hy
        simp [this]
    · simp only [go_sem, ↓reduceIte, Nat.reduceLT, Nat.reduceLeDiff, Nat.reduceEqDiff, Nat.reduceAdd, Nat.reduceSub, Nat.reduceDiv, Nat.reduceMod, Nat.reduceMul, Nat.reduceBEq, Nat.reduceBNe, reduceCtorEq, Int.reduceLT, Int.reduceLE, Int.reduceEq, Int.reduceNe, Int.reduceBEq, Int.reduceBNe, Int.reduceAdd, Int.reduceSub, Int.reduceNeg, Int.reduceToNat, hlt]
      have e1 : a.take k = a := List.take_of_length_le (by omega)
      have e2 : b.take k = b := List.take_of_length_le (by omega)
      rw [e1, e2] at hI
      exact ex_le_refl (by simp [hI])
  · have e0 : ((a.length : Int) != (b.length : Int)) = true := by simp; omega
    simp only [go_sem, ↓reduceIte, Nat.reduceLT, Nat.reduceLeDiff, Nat.reduceEqDiff, Nat.reduceAdd, Nat.reduceSub, Nat.reduceDiv, Nat.reduceMod, Nat.reduceMul, Nat.reduceBEq, Nat.reduceBNe, reduceCtorEq, Int.reduceLT, Int.reduceLE, Int.reduceEq, Int.reduceNe, Int.reduceBEq, Int.reduceBNe, Int.reduceAdd, Int.reduceSub, Int.reduceNeg, Int.reduceToNat, e0]
    have : a ≠ b := by rintro rfl; exact hl rfl
    exact ex_le_refl (by simp [this])
noncomputable def tab_same5r : Tab := tabOf (fun p : (List Int) × (List Int) => match p with | (a, b) => [ints a, ints b]) (fun p : (List Int) × (List Int) => match p with | (a, b) => sz a.length ∧ sz b.length) (fun p : (List Int) × (List Int) => match p with | (a, b) => boolP (decide (a = b)))
theorem tab_same5r_eq (a : List Int) (b : List Int) : tab_same5r [ints a, ints b] = some (sz a.length ∧ sz b.length, .p (boolP (decide (a = b)))) := tabOf_eq (enc := fun p : (List Int) × (List Int) => match p with | (a, b) => [ints a, ints b]) (pre := fun p : (List Int) × (List Int) => match p with | (a, b) => sz a.length ∧ sz b.length) (out := fun p : (List Int) × (List Int) => match p with | (a, b) => boolP (decide (a = b))) (by rintro ⟨a, b⟩ ⟨a', b'⟩ h; simp at h; first | (simp [h]; done) | omega | (simp [h]; omega)) (a, b)
theorem tab_same5r_ok : TabOK Try.prog 76 tab_same5r := tabOf_ok (by rintro ⟨a, b⟩ h; exact same5r_spec a b h)
noncomputable abbrev ent_same5r : FuncId × List Nat × Tab := (76, [1, 1], tab_same5r)
attribute [go_sem] tab_same5r_eq
theorem minL_take {l : List Int} {k : Nat} {x : Int} (hk : 1 ≤ k) (hx : l[k]? = some x) : R5.minL (l.take (k + 1)) = if x < R5.minL (l.take k) then x else R5.minL (l.take k) := by
  rw [take_succ_of hx, R5.minL_snoc]
  have : l.take k ≠ [] := by
    intro h
    have h1 := congrArg List.length h
    have h2 := lt_get hx
    rw [List.length_take, List.length_nil] at h1
    omega
  simp only [this, false_or]
def maxL : List Int → Int
  | [] => 0
  | x :: l => l.foldl max x
theorem maxL_take {l : List Int} {k : Nat} {x : Int} (hk : 1 ≤ k) (hx : l[k]? = some x) : maxL (l.take (k + 1)) = if maxL (l.take k) < x then x else maxL (l.take k) := by
  have h2 := lt_get hx
  rw [take_succ_of hx]
  cases l with
  | nil => simp at h2
  | cons y l =>
    obtain ⟨j, rfl⟩ : ∃ j, k = j + 1 := ⟨k - 1, by omega⟩
    have e : ∀ a b : Int, (if a < b then b else a) = max a b := by intro a b; split <;> omega
    rw [e]
    simp [maxL, List.foldl_append]
theorem maxL_le {l : List Int} {y : Int} (h : y ∈ l) : y ≤ maxL l := by
  cases l with
  | nil => simp at h
  | cons x l =>
    have key : ∀ (l : List Int) (x : Int), x ≤ l.foldl max x ∧ ∀ y ∈ l, y ≤ l.foldl max x := by
      intro l
      induction l with
      | nil => intro x; simp
      | cons z l ih =>
        intro x
        obtain ⟨h1, h2⟩ := ih (max x z)
        simp only [List.foldl_cons]
        refine ⟨by omega, fun y hy => ?_⟩
        rcases List.mem_cons.1 hy with rfl | hy
        · omega
        · exact h2 y hy
    rcases List.mem_cons.1 h with rfl | h
    · exact (key l y).1
    · exact (key l x).2 y h
theorem maxL_mem {l : List Int} (h : l ≠ []) : maxL l ∈ l := by
  cases l with
  | nil => simp at h
  | cons x l =>
    have key : ∀ (l : List Int) (x : Int), l.foldl max x = x ∨ l.foldl max x ∈ l := by
      intro l
      induction l with
      | nil => intro x; simp
      | cons z l ih =>
        intro x
        simp only [List.foldl_cons]
        rcases ih (max x z) with h | h
        · rw [h]
          rcases Int.le_total x z with h' | h'
          · rw [Int.max_eq_right h']; exact .inr (by simp)
          · rw [Int.max_eq_left h']; exact .inl rfl
        · exact .inr (List.mem_cons_of_mem _ h)
    rcases key l x with h | h
    · simp [maxL, h]
    · exact List.mem_cons_of_mem _ h

theorem min5_spec (l : List Int) (hpre : sz l.length ∧ l ≠ []) : Ret Try.prog 59 [ints l] (intP (R5.minL l)) := by
  refine fn_of (T := []) (N := 25) (RO := []) (CH := []) (KS := [0, 2, 3, 4, 7, 15]) (NS := []) (fun args w => Try.call59 args w) Try.func59 rfl rfl (by simp) mixed (by kernel_rfl) trivial ?_
  simp only [go_sem, ↓reduceIte, Nat.reduceLT, Nat.reduceLeDiff, Nat.reduceEqDiff, Nat.reduceAdd, Nat.reduceSub, Nat.reduceDiv, Nat.reduceMod, Nat.reduceMul, Nat.reduceBEq, Nat.reduceBNe, reduceCtorEq, Int.reduceLT, Int.reduceLE, Int.reduceEq, Int.reduceNe, Int.reduceBEq, Int.reduceBNe, Int.reduceAdd, Int.reduceSub, Int.reduceNeg, Int.reduceToNat]
  have hpos : 0 < l.length := List.length_pos_iff.2 hpre.2
  obtain ⟨x0, hx0⟩ := get_some hpos
  have e0 : ¬ ((l.length : Int) < 1) := by omega
  have e1 : l.take 1 = [x0] := by rw [take_succ_of hx0]; rfl
  simp only [go_sem, ↓reduceIte, Nat.reduceLT, Nat.reduceLeDiff, Nat.reduceEqDiff, Nat.reduceAdd, Nat.reduceSub, Nat.reduceDiv, Nat.reduceMod, Nat.reduceMul, Nat.reduceBEq, Nat.reduceBNe, reduceCtorEq, Int.reduceLT, Int.reduceLE, Int.reduceEq, Int.reduceNe, Int.reduceBEq, Int.reduceBNe, Int.reduceAdd, Int.reduceSub, Int.reduceNeg, Int.reduceToNat, e0, show (0 : Int) < (l.length : Int) by omega, lof_getD hx0]
  refine vfor [0,3,4] [] [] (l.length - 1) (fun k => True) (fun k => ⟨[(0,.p (ints l)),(3,.p (intP (R5.minL (l.take (k + 1))))),(4,.p (natP (k + 1)))], []⟩) (by rw [e1]; rfl) trivial ?_
  intro k hk _
  by_cases hlt : k + 1 < l.length
  · obtain ⟨x, hx⟩ := get_some hlt
    simp only [go_sem, ↓reduceIte, Nat.reduceLT, Nat.reduceLeDiff, Nat.reduceEqDiff, Nat.reduceAdd, Nat.reduceSub, Nat.reduceDiv, Nat.reduceMod, Nat.reduceMul, Nat.reduceBEq, Nat.reduceBNe, reduceCtorEq, Int.reduceLT, Int.reduceLE, Int.reduceEq, Int.reduceNe, Int.reduceBEq, Int.reduceBNe, Int.reduceAdd, Int.reduceSub, Int.reduceNeg, Int.reduceToNat, hlt, lof_getD hx, minL_take (by omega) hx, show ((k : Int) + 1 < (l.length : Int)) by omega]
    (repeat' (first | assumption | (rw [InK_i64]; omega) | (rw [InK_u8]; omega) | (rw [InK_u64]; omega) | omega | rfl | apply And.intro))
  · have e1 : l.take (k + 1) = l := List.take_of_length_le (by omega)
    simp only [go_sem, ↓reduceIte, Nat.reduceLT, Nat.reduceLeDiff, Nat.reduceEqDiff, Nat.reduceAdd, Nat.reduceSub, Nat.reduceDiv, Nat.reduceMod, Nat.reduceMul, Nat.reduceBEq, Nat.reduceBNe, reduceCtorEq, Int.reduceLT, Int.reduceLE, Int.reduceEq, Int.reduceNe, Int.reduceBEq, Int.reduceBNe, Int.reduceAdd, Int.reduceSub, Int.reduceNeg, Int.reduceToNat, e1, hlt]
    exact ex_le_refl rfl
noncomputable def tab_min5 : Tab := tabOf (fun p : (List Int) => match p with | l => [ints l]) (fun p : (List Int) => match p with | l => sz l.length ∧ l ≠ []) (fun p : (List Int) => match p with | l => intP (R5.minL l))
theorem tab_min5_eq (l : List Int) : tab_min5 [ints l] = some (sz l.length ∧ l ≠ [], .p (intP (R5.minL l))) := tabOf_eq (enc := fun p : (List Int) => match p with | l => [ints l]) (pre := fun p : (List Int) => match p with | l => sz l.length ∧ l ≠ []) (out := fun p : (List Int) => match p with | l => intP (R5.minL l)) (by rintro l l' h; simp at h; first | (simp [h]; done) | omega | (simp [h]; omega)) (l)
theorem tab_min5_ok : TabOK Try.prog 59 tab_min5 := tabOf_ok (by rintro l h; exact min5_spec l h)
noncomputable abbrev ent_min5 : FuncId × List Nat × Tab := (59, [1], tab_min5)
attribute [go_sem] tab_min5_eq

theorem max5_spec (l : List Int) (hpre : sz l.length ∧ l ≠ []) : Ret Try.prog 55 [ints l] (intP (maxL l)) := by
  refine fn_of (T := []) (N := 25) (RO := []) (CH := []) (KS := [0, 2, 3, 4, 7, 15]) (NS := []) (fun args w => Try.call55 args w) Try.func55 rfl rfl (by simp) mixed (by kernel_rfl) trivial ?_
  simp only [go_sem, ↓reduceIte, Nat.reduceLT, Nat.reduceLeDiff, Nat.reduceEqDiff, Nat.reduceAdd, Nat.reduceSub, Nat.reduceDiv, Nat.reduceMod, Nat.reduceMul, Nat.reduceBEq, Nat.reduceBNe, reduceCtorEq, Int.reduceLT, Int.reduceLE, Int.reduceEq, Int.reduceNe, Int.reduceBEq, Int.reduceBNe, Int.reduceAdd, Int.reduceSub, Int.reduceNeg, Int.reduceToNat]
  have hpos : 0 < l.length := List.length_pos_iff.2 hpre.2
  obtain ⟨x0, hx0⟩ := get_some hpos
  have e0 : ¬ ((l.length : Int) < 1) := by omega
  have e1 : l.take 1 = [x0] := by rw [take_succ_of hx0]; rfl
  simp only [go_sem, ↓reduceIte, Nat.reduceLT, Nat.reduceLeDiff, Nat.reduceEqDiff, Nat.reduceAdd, Nat.reduceSub, Nat.reduceDiv, Nat.reduceMod, Nat.reduceMul, Nat.reduceBEq, Nat.reduceBNe, reduceCtorEq, Int.reduceLT, Int.reduceLE, Int.reduceEq, Int.reduceNe, Int.reduceBEq, Int.reduceBNe, Int.reduceAdd, Int.reduceSub, Int.reduceNeg, Int.reduceToNat, e0, show (0 : Int) < (l.length : Int) by omega, lof_getD hx0]
  refine vfor [0,3,4] [] [] (l.length - 1) (fun k => True) (fun k => ⟨[(0,.p (ints l)),(3,.p (intP (maxL (l.take (k + 1))))),(4,.p (natP (k + 1)))], []⟩) (by rw [e1]; rfl) trivial ?_
  intro k hk _
  by_cases hlt : k + 1 < l.length
  · obtain ⟨x, hx⟩ := get_some hlt
    simp only [go_sem, ↓reduceIte, Nat.reduceLT, Nat.reduceLeDiff, Nat.reduceEqDiff, Nat.reduceAdd, Nat.reduceSub, Nat.reduceDiv, Nat.reduceMod, Nat.reduceMul, Nat.reduceBEq, Nat.reduceBNe, reduceCtorEq, Int.reduceLT, Int.reduceLE, Int.reduceEq, Int.reduceNe, Int.reduceBEq, Int.reduceBNe, Int.reduceAdd, Int.reduceSub, Int.reduceNeg, Int.reduceToNat, hlt, lof_getD hx, maxL_take (by omega) hx, show ((k : Int) + 1 < (l.length : Int)) by omega]
    (repeat' (first | assumption | (rw [InK_i64]; omega) | (rw [InK_u8]; omega) | (rw [InK_u64]; omega) | omega | rfl | apply And.intro))
  · have e1 : l.take (k + 1) = l := List.take_of_length_le (by omega)
    simp only [go_sem, ↓reduceIte, Nat.reduceLT, Nat.reduceLeDiff, Nat.reduceEqDiff, Nat.reduceAdd, Nat.reduceSub, Nat.reduceDiv, Nat.reduceMod, Nat.reduceMul, Nat.reduceBEq, Nat.reduceBNe, reduceCtorEq, Int.reduceLT, Int.reduceLE, Int.reduceEq, Int.reduceNe, Int.reduceBEq, Int.reduceBNe, Int.reduceAdd, Int.reduceSub, Int.reduceNeg, Int.reduceToNat, e1, hlt]
    exact ex_le_refl rfl
noncomputable def tab_max5 : Tab := tabOf (fun p : (List Int) => match p with | l => [ints l]) (fun p : (List Int) => match p with | l => sz l.length ∧ l ≠ []) (fun p : (List Int) => match p with | l => intP (maxL l))
theorem tab_max5_eq (l : List Int) : tab_max5 [ints l] = some (sz l.length ∧ l ≠ [], .p (intP (maxL l))) := tabOf_eq (enc := fun p : (List Int) => match p with | l => [ints l]) (pre := fun p : (List Int) => match p with | l => sz l.length ∧ l ≠ []) (out := fun p : (List Int) => match p with | l => intP (maxL l)) (by rintro l l' h; simp at h; first | (simp [h]; done) | omega | (simp [h]; omega)) (l)
theorem tab_max5_ok : TabOK Try.prog 55 tab_max5 := tabOf_ok (by rintro l h; exact max5_spec l h)
noncomputable abbrev ent_max5 : FuncId × List Nat × Tab := (55, [1], tab_max5)
attribute [go_sem] tab_max5_eq

/-- the error of loads -/
def checkL (l : List Int) : Int := if l.length = 0 then 4 else if 8 < l.length then 3 else if l.all (fun x => inB x 1 100) then 0 else 1
theorem checkL_zero {l : List Int} : checkL l = 0 ↔ 1 ≤ l.length ∧ l.length ≤ 8 ∧ R5.Loads l := by
  unfold checkL
  by_cases h1 : l.length = 0
  · simp [h1]
  · rw [if_neg h1]
    by_cases h2 : 8 < l.length
    · rw [if_pos h2]; constructor
      · intro h; cases h
      · omega
    · rw [if_neg h2]
      by_cases h3 : l.all (fun x => inB x 1 100) = true
      · rw [if_pos h3]
        refine ⟨fun _ => ⟨by omega, by omega, fun x hx => ?_⟩, fun _ => rfl⟩
        have := List.all_eq_true.1 h3 x hx
        simpa [inB] using this
      · rw [if_neg h3]
        constructor
        · intro h; cases h
        · intro h
          exfalso; apply h3
          rw [List.all_eq_true]
          intro x hx
          have := h.2.2 x hx
          simp [inB]; omega

theorem check5_spec (l : List Int) (hpre : sz l.length) : Ret Try.prog 25 [ints l] (errP (checkL l)) := by
  refine fn_of (T := [ent_min5, ent_max5]) (N := 20) (RO := []) (CH := []) (KS := [0, 2, 3, 7, 11]) (NS := []) (fun args w => Try.call25 args w) Try.func25 rfl rfl (by simp) mixed (by kernel_rfl) ⟨tab_min5_ok, tab_max5_ok, trivial⟩ ?_
  simp only [go_sem, ↓reduceIte, Nat.reduceLT, Nat.reduceLeDiff, Nat.reduceEqDiff, Nat.reduceAdd, Nat.reduceSub, Nat.reduceDiv, Nat.reduceMod, Nat.reduceMul, Nat.reduceBEq, Nat.reduceBNe, reduceCtorEq, Int.reduceLT, Int.reduceLE, Int.reduceEq, Int.reduceNe, Int.reduceBEq, Int.reduceBNe, Int.reduceAdd, Int.reduceSub, Int.reduceNeg, Int.reduceToNat]
  by_cases h0 : l.length = 0
  · have : l = [] := List.eq_nil_of_length_eq_zero h0
    subst this
    simp only [go_sem, ↓reduceIte, Nat.reduceLT, Nat.reduceLeDiff, Nat.reduceEqDiff, Nat.reduceAdd, Nat.reduceSub, Nat.reduceDiv, Nat.reduceMod, Nat.reduceMul, Nat.reduceBEq, Nat.reduceBNe, reduceCtorEq, Int.reduceLT, Int.reduceLE, Int.reduceEq, Int.reduceNe, Int.reduceBEq, Int.reduceBNe, Int.reduceAdd, Int.reduceSub, Int.reduceNeg, Int.reduceToNat]
    exact ex_le_refl rfl
  · have e0 : ((l.length : Int) == 0) = false := by rw [beq_eq_false_iff_ne]; omega
    by_cases h8 : (8 : Int) < l.length
    · simp only [go_sem, ↓reduceIte, Nat.reduceLT, Nat.reduceLeDiff, Nat.reduceEqDiff, Nat.reduceAdd, Nat.reduceSub, Nat.reduceDiv, Nat.reduceMod, Nat.reduceMul, Nat.reduceBEq, Nat.reduceBNe, reduceCtorEq, Int.reduceLT, Int.reduceLE, Int.reduceEq, Int.reduceNe, Int.reduceBEq, Int.reduceBNe, Int.reduceAdd, Int.reduceSub, Int.reduceNeg, Int.reduceToNat, e0, h8]
      exact ex_le_refl (by unfold checkL; rw [if_neg h0, if_pos (by omega)])
    · have hne : l ≠ [] := by rintro rfl; simp at h0
      have hmn := R5.minL_mem hne
      have hmx := maxL_mem hne
      have hall : l.all (fun x => inB x 1 100) = (decide (1 ≤ R5.minL l) && decide (maxL l ≤ 100)) := by
        rw [Bool.eq_iff_iff, List.all_eq_true]
        simp only [inB, Bool.and_eq_true, decide_eq_true_eq]
        constructor
        · intro h; exact ⟨(h _ hmn).1, (h _ hmx).2⟩
        · intro h x hx
          have := R5.minL_le hx; have := maxL_le hx; omega
      have hc : checkL l = if (decide (1 ≤ R5.minL l) && decide (maxL l ≤ 100)) = true then 0 else 1 := by
        unfold checkL; rw [if_neg h0, if_neg (by omega), hall]
      by_cases h1 : R5.minL l < 1
      · simp only [go_sem, ↓reduceIte, Nat.reduceLT, Nat.reduceLeDiff, Nat.reduceEqDiff, Nat.reduceAdd, Nat.reduceSub, Nat.reduceDiv, Nat.reduceMod, Nat.reduceMul, Nat.reduceBEq, Nat.reduceBNe, reduceCtorEq, Int.reduceLT, Int.reduceLE, Int.reduceEq, Int.reduceNe, Int.reduceBEq, Int.reduceBNe, Int.reduceAdd, Int.reduceSub, Int.reduceNeg, Int.reduceToNat, e0, h8, h1, hpre, hne]
        exact ⟨hne, ex_le_refl (by rw [hc]; simp; omega)⟩
      · by_cases h2 : 100 < maxL l
        · simp only [go_sem, ↓reduceIte, Nat.reduceLT, Nat.reduceLeDiff, Nat.reduceEqDiff, Nat.reduceAdd, Nat.reduceSub, Nat.reduceDiv, Nat.reduceMod, Nat.reduceMul, Nat.reduceBEq, Nat.reduceBNe, reduceCtorEq, Int.reduceLT, Int.reduceLE, Int.reduceEq, Int.reduceNe, Int.reduceBEq, Int.reduceBNe, Int.reduceAdd, Int.reduceSub, Int.reduceNeg, Int.reduceToNat, e0, h8, h1, h2, hpre, hne]
          exact ⟨hne, hne, ex_le_refl (by rw [hc]; simp; omega)⟩
        · simp only [go_sem, ↓reduceIte, Nat.reduceLT, Nat.reduceLeDiff, Nat.reduceEqDiff, Nat.reduceAdd, Nat.reduceSub, Nat.reduceDiv, Nat.reduceMod, Nat.reduceMul, Nat.reduceBEq, Nat.reduceBNe, reduceCtorEq, Int.reduceLT, Int.reduceLE, Int.reduceEq, Int.reduceNe, Int.reduceBEq, Int.reduceBNe, Int.reduceAdd, Int.reduceSub, Int.reduceNeg, Int.reduceToNat, e0, h8, h1, h2, hpre, hne]
          exact ⟨hne, hne, ex_le_refl (by rw [hc]; simp; omega)⟩
noncomputable def tab_check5 : Tab := tabOf (fun p : (List Int) => match p with | l => [ints l]) (fun p : (List Int) => match p with | l => sz l.length) (fun p : (List Int) => match p with | l => errP (checkL l))
theorem tab_check5_eq (l : List Int) : tab_check5 [ints l] = some (sz l.length, .p (errP (checkL l))) := tabOf_eq (enc := fun p : (List Int) => match p with | l => [ints l]) (pre := fun p : (List Int) => match p with | l => sz l.length) (out := fun p : (List Int) => match p with | l => errP (checkL l)) (by rintro l l' h; simp at h; first | (simp [h]; done) | omega | (simp [h]; omega)) (l)
theorem tab_check5_ok : TabOK Try.prog 25 tab_check5 := tabOf_ok (by rintro l h; exact check5_spec l h)
noncomputable abbrev ent_check5 : FuncId × List Nat × Tab := (25, [1], tab_check5)
attribute [go_sem] tab_check5_eq

theorem check5r_spec (l : List Int) (hpre : sz l.length) : Ret Try.prog 26 [ints l] (errP (checkL l)) := by
  refine fn_of (T := [ent_in5]) (N := 22) (RO := []) (CH := []) (KS := [0, 2, 3, 6, 9, 13, 21]) (NS := []) (fun args w => Try.call26 args w) Try.func26 rfl rfl (by simp) mixed (by kernel_rfl) ⟨tab_in5_ok, trivial⟩ ?_
  simp only [go_sem, ↓reduceIte, Nat.reduceLT, Nat.reduceLeDiff, Nat.reduceEqDiff, Nat.reduceAdd, Nat.reduceSub, Nat.reduceDiv, Nat.reduceMod, Nat.reduceMul, Nat.reduceBEq, Nat.reduceBNe, reduceCtorEq, Int.reduceLT, Int.reduceLE, Int.reduceEq, Int.reduceNe, Int.reduceBEq, Int.reduceBNe, Int.reduceAdd, Int.reduceSub, Int.reduceNeg, Int.reduceToNat]
  by_cases h0 : l.length = 0
  · have : l = [] := List.eq_nil_of_length_eq_zero h0
    subst this
    simp only [go_sem, ↓reduceIte, Nat.reduceLT, Nat.reduceLeDiff, Nat.reduceEqDiff, Nat.reduceAdd, Nat.reduceSub, Nat.reduceDiv, Nat.reduceMod, Nat.reduceMul, Nat.reduceBEq, Nat.reduceBNe, reduceCtorEq, Int.reduceLT, Int.reduceLE, Int.reduceEq, Int.reduceNe, Int.reduceBEq, Int.reduceBNe, Int.reduceAdd, Int.reduceSub, Int.reduceNeg, Int.reduceToNat]
    exact ex_le_refl rfl
  · have e0 : ((l.length : Int) == 0) = false := by rw [beq_eq_false_iff_ne]; omega
    by_cases h8 : (8 : Int) < l.length
    · simp only [go_sem, ↓reduceIte, Nat.reduceLT, Nat.reduceLeDiff, Nat.reduceEqDiff, Nat.reduceAdd, Nat.reduceSub, Nat.reduceDiv, Nat.reduceMod, Nat.reduceMul, Nat.reduceBEq, Nat.reduceBNe, reduceCtorEq, Int.reduceLT, Int.reduceLE, Int.reduceEq, Int.reduceNe, Int.reduceBEq, Int.reduceBNe, Int.reduceAdd, Int.reduceSub, Int.reduceNeg, Int.reduceToNat, e0, h8]
      exact ex_le_refl (by unfold checkL; rw [if_neg h0, if_pos (by omega)])
    · have hc : checkL l = if l.all (fun x => inB x 1 100) then 0 else 1 := by unfold checkL; rw [if_neg h0, if_neg (by omega)]
      simp only [go_sem, ↓reduceIte, Nat.reduceLT, Nat.reduceLeDiff, Nat.reduceEqDiff, Nat.reduceAdd, Nat.reduceSub, Nat.reduceDiv, Nat.reduceMod, Nat.reduceMul, Nat.reduceBEq, Nat.reduceBNe, reduceCtorEq, Int.reduceLT, Int.reduceLE, Int.reduceEq, Int.reduceNe, Int.reduceBEq, Int.reduceBNe, Int.reduceAdd, Int.reduceSub, Int.reduceNeg, Int.reduceToNat, e0, h8]
      refine vfor [0,3] [] [] l.length (fun k => (l.take k).all (fun x => inB x 1 100) = true) (fun k => ⟨[(0,.p (ints l)),(3,.p (natP k))], []⟩) (by first | rfl | (simp only [go_sem, ↓reduceIte, Nat.reduceLT, Nat.reduceLeDiff, Nat.reduceEqDiff, Nat.reduceAdd, Nat.reduceSub, Nat.reduceDiv, Nat.reduceMod, Nat.reduceMul, Nat.reduceBEq, Nat.reduceBNe, reduceCtorEq, Int.reduceLT, Int.reduceLE, Int.reduceEq, Int.reduceNe, Int.reduceBEq, Int.reduceBNe, Int.reduceAdd, Int.reduceSub, Int.reduceNeg, Int.reduceToNat]; first | done | rfl)) (by simp) ?_
      intro k hk hI
      by_cases hlt : k < l.length
      · obtain ⟨x, hx⟩ := get_some hlt
        by_cases hin : inB x 1 100 = true
        · simp only [go_sem, ↓reduceIte, Nat.reduceLT, Nat.reduceLeDiff, Nat.reduceEqDiff, Nat.reduceAdd, Nat.reduceSub, Nat.reduceDiv, Nat.reduceMod, Nat.reduceMul, Nat.reduceBEq, Nat.reduceBNe, reduceCtorEq, Int.reduceLT, Int.reduceLE, Int.reduceEq, Int.reduceNe, Int.reduceBEq, Int.reduceBNe, Int.reduceAdd, Int.reduceSub, Int.reduceNeg, Int.reduceToNat, hlt, lof_getD hx, hin]
          have hI' : (l.take (k + 1)).all (fun x => inB x 1 100) = true := by rw [take_succ_of hx, List.all_append, hI]; simp [hin]
          (repeat' (first | assumption | (rw [InK_i64]; omega) | (rw [InK_u8]; omega) | (rw [InK_u64]; omega) | omega | rfl | apply And.intro))
        · rw [Bool.not_eq_true] at hin
          simp only [go_sem, ↓reduceIte, Nat.reduceLT, Nat.reduceLeDiff, Nat.reduceEqDiff, Nat.reduceAdd, Nat.reduceSub, Nat.reduceDiv, Nat.reduceMod, Nat.reduceMul, Nat.reduceBEq, Nat.reduceBNe, reduceCtorEq, Int.reduceLT, Int.reduceLE, Int.reduceEq, Int.reduceNe, Int.reduceBEq, Int.reduceBNe, Int.reduceAdd, Int.reduceSub, Int.reduceNeg, Int.reduceToNat, hlt, lof_getD hx, hin]
          refine ex_le_refl ?_
          rw [hc, if_neg]
          intro h
          have := List.all_eq_true.1 h x (List.mem_of_getElem? hx)
          rw [hin] at this; cases this
      · simp only [go_sem, ↓reduceIte, Nat.reduceLT, Nat.reduceLeDiff, Nat.reduceEqDiff, Nat.reduceAdd, Nat.reduceSub, Nat.reduceDiv, Nat.reduceMod, Nat.reduceMul, Nat.reduceBEq, Nat.reduceBNe, reduceCtorEq, Int.reduceLT, Int.reduceLE, Int.reduceEq, Int.reduceNe, Int.reduceBEq, Int.reduceBNe, Int.reduceAdd, Int.reduceSub, Int.reduceNeg, Int.reduceToNat, hlt]
        have e1 : l.take k = l := List.take_of_length_le (by omega)
        rw [e1] at hI
        exact ex_le_refl (by rw [hc, if_pos hI])
noncomputable def tab_check5r : Tab := tabOf (fun p : (List Int) => match p with | l => [ints l]) (fun p : (List Int) => match p with | l => sz l.length) (fun p : (List Int) => match p with | l => errP (checkL l))
theorem tab_check5r_eq (l : List Int) : tab_check5r [ints l] = some (sz l.length, .p (errP (checkL l))) := tabOf_eq (enc := fun p : (List Int) => match p with | l => [ints l]) (pre := fun p : (List Int) => match p with | l => sz l.length) (out := fun p : (List Int) => match p with | l => errP (checkL l)) (by rintro l l' h; simp at h; first | (simp [h]; done) | omega | (simp [h]; omega)) (l)
theorem tab_check5r_ok : TabOK Try.prog 26 tab_check5r := tabOf_ok (by rintro l h; exact check5r_spec l h)
noncomputable abbrev ent_check5r : FuncId × List Nat × Tab := (26, [1], tab_check5r)
attribute [go_sem] tab_check5r_eq
end Go.V

namespace Go.V
open Go.Proofs
set_option maxRecDepth 10000
set_option maxHeartbeats 1000000

theorem dot_snoc {xs ys : List Int} {k : Nat} {x y : Int} (hx : xs[k]? = some x) (hy : ys[k]? = some y) : R5.dot (xs.take (k + 1)) (ys.take (k + 1)) = R5.dot (xs.take k) (ys.take k) + x * y := by
  have h1 := lt_get hx; have h2 := lt_get hy
  rw [take_succ_of hx, take_succ_of hy, R5.dot_append _ _ _ _ (by simp; omega)]
  simp [R5.dot]
theorem dot_bd : ∀ (xs ys : List Int), (∀ x ∈ xs, 0 ≤ x ∧ x ≤ 100) → (∀ y ∈ ys, 0 ≤ y ∧ y ≤ 8) → 0 ≤ R5.dot xs ys ∧ R5.dot xs ys ≤ 800 * xs.length
  | [], ys, _, _ => by simp [R5.dot]
  | x :: xs, [], _, _ => by simp [R5.dot]; omega
  | x :: xs, y :: ys, h1, h2 => by
    obtain ⟨h3, h4⟩ := dot_bd xs ys (fun z hz => h1 z (List.mem_cons_of_mem _ hz)) (fun z hz => h2 z (List.mem_cons_of_mem _ hz))
    obtain ⟨h5, h6⟩ := h1 x (by simp)
    obtain ⟨h7, h8⟩ := h2 y (by simp)
    have h9 := Int.mul_nonneg h5 h7
    have h10 : x * y ≤ 100 * 8 := Int.mul_le_mul h6 h8 h7 (by omega)
    simp only [R5.dot, List.length_cons]
    omega
theorem mul_bd {x y : Int} (h : 0 ≤ x ∧ x ≤ 100) (h' : 0 ≤ y ∧ y ≤ 8) : 0 ≤ x * y ∧ x * y ≤ 800 :=
  ⟨Int.mul_nonneg h.1 h'.1, by have := Int.mul_le_mul h.2 h'.2 h'.1 (show (0 : Int) ≤ 100 by omega); omega⟩
structure LoadsOK (L : List Int) : Prop where
  lo : 1 ≤ L.length
  hi : L.length ≤ 8
  ld : R5.Loads L
theorem kinds_of_enc {t u : R5.T} {a : Nat} (h : t.enc a = u.enc a) : t = u := by
  have h1 := congrArg List.length h
  rw [R5.T.enc_length, R5.T.enc_length] at h1
  have := t.kinds_pos; have := u.kinds_pos
  exact R5.T.enc_inj t u a (by omega) h
/-- what the functions with loads return -/
def bestV (L : List Int) : List Int := if checkL L = 0 then (R5.bestT L 0 L.length).enc 0 else []
def leastV (L : List Int) : Int := if checkL L = 0 then R5.least L 0 L.length else 0
def countV (L : List Int) : Int := if checkL L = 0 then (R5.many L 0 L.length : Int) else 0
def topsE (L : List Int) : Int := if checkL L = 0 then (if L.length = 1 then 2 else 0) else checkL L
def firstV (L : List Int) : Int := if topsE L = 0 then (R5.firstT L 0 L.length : Int) else 0
def lastV (L : List Int) : Int := if topsE L = 0 then (R5.lastT L 0 L.length : Int) else 0
theorem loads_ok {L : List Int} (h : checkL L = 0) : LoadsOK L := by obtain ⟨h1, h2, h3⟩ := checkL_zero.1 h; exact ⟨h1, h2, h3⟩
theorem bests_cons {L : List Int} (h : 1 ≤ L.length) : ∃ r, R5.bests L 0 L.length = R5.bestT L 0 L.length :: r := by
  have := R5.bests_ne L 0 h
  unfold R5.bestT
  cases hb : R5.bests L 0 L.length with
  | nil => exact absurd hb this
  | cons x r => exact ⟨r, rfl⟩

def anyV (L : List Int) : Int := if checkL L = 0 then R5.anyM L else 0

theorem sum_nonneg {l : List Int} (h : ∀ x ∈ l, 0 ≤ x) : 0 ≤ l.sum := by
  induction l with
  | nil => simp
  | cons x l ih => have := ih fun y hy => h y (List.mem_cons_of_mem _ hy); have := h x (by simp); simp; omega
theorem refAny_bd {l : List Int} (hlo : ∀ x ∈ l, 0 ≤ x) : 0 ≤ R5.refAny l.length l ∧ R5.refAny l.length l ≤ l.length * l.sum := by
  rw [R5.refAny_eq l.length l (R5.sortI l) (R5.sortI_perm l).symm (R5.sortI_rises l)]
  have := R5.anyF_bd l.length (R5.sortI l) (fun x hx => hlo x ((R5.sortI_perm l).mem_iff.1 hx))
  rw [R5.sum_perm (R5.sortI_perm l)] at this
  exact this

end Go.V

namespace Go.V
open Go.Proofs
set_option maxRecDepth 10000
set_option maxHeartbeats 2000000

theorem nanS_spec (x : Int) (hpre : True) : Ret Try.prog 93 [intP x] (boolP false) := by
  refine fn_of (T := []) (N := 6) (RO := []) (CH := []) (KS := [0, 2]) (NS := []) (fun args w => Try.call93 args w) Try.func93 rfl rfl (by simp) mixed (by kernel_rfl) trivial ?_
  simp only [go_sem, ↓reduceIte, Nat.reduceLT, Nat.reduceLeDiff, Nat.reduceEqDiff, Nat.reduceAdd, Nat.reduceSub, Nat.reduceDiv, Nat.reduceMod, Nat.reduceMul, Nat.reduceBEq, Nat.reduceBNe, reduceCtorEq, Int.reduceLT, Int.reduceLE, Int.reduceEq, Int.reduceNe, Int.reduceBEq, Int.reduceBNe, Int.reduceAdd, Int.reduceSub, Int.reduceNeg, Int.reduceToNat]
  exact ex_le_refl (by simp)
noncomputable def tab_nanS : Tab := tabOf (fun p : (Int) => match p with | x => [intP x]) (fun p : (Int) => match p with | x => True) (fun p : (Int) => match p with | x => boolP false)
theorem tab_nanS_eq (x : Int) : tab_nanS [intP x] = some (True, .p (boolP false)) := tabOf_eq (enc := fun p : (Int) => match p with | x => [intP x]) (pre := fun p : (Int) => match p with | x => True) (out := fun p : (Int) => match p with | x => boolP false) (by rintro x x' h; simp at h; first | (simp [h]; done) | omega | (simp [h]; omega)) (x)
theorem tab_nanS_ok : TabOK Try.prog 93 tab_nanS := tabOf_ok (by rintro x h; exact nanS_spec x h)
noncomputable abbrev ent_nanS : FuncId × List Nat × Tab := (93, [], tab_nanS)
attribute [go_sem] tab_nanS_eq
theorem nanC_spec (x : Int) (hpre : True) : Ret Try.prog 114 [intP x] (boolP false) := by
  refine fn_of (T := []) (N := 6) (RO := []) (CH := []) (KS := [0, 2]) (NS := []) (fun args w => Try.call114 args w) Try.func114 rfl rfl (by simp) mixed (by kernel_rfl) trivial ?_
  simp only [go_sem, ↓reduceIte, Nat.reduceLT, Nat.reduceLeDiff, Nat.reduceEqDiff, Nat.reduceAdd, Nat.reduceSub, Nat.reduceDiv, Nat.reduceMod, Nat.reduceMul, Nat.reduceBEq, Nat.reduceBNe, reduceCtorEq, Int.reduceLT, Int.reduceLE, Int.reduceEq, Int.reduceNe, Int.reduceBEq, Int.reduceBNe, Int.reduceAdd, Int.reduceSub, Int.reduceNeg, Int.reduceToNat]
  exact ex_le_refl (by simp)
noncomputable def tab_nanC : Tab := tabOf (fun p : (Int) => match p with | x => [intP x]) (fun p : (Int) => match p with | x => True) (fun p : (Int) => match p with | x => boolP false)
theorem tab_nanC_eq (x : Int) : tab_nanC [intP x] = some (True, .p (boolP false)) := tabOf_eq (enc := fun p : (Int) => match p with | x => [intP x]) (pre := fun p : (Int) => match p with | x => True) (out := fun p : (Int) => match p with | x => boolP false) (by rintro x x' h; simp at h; first | (simp [h]; done) | omega | (simp [h]; omega)) (x)
theorem tab_nanC_ok : TabOK Try.prog 114 tab_nanC := tabOf_ok (by rintro x h; exact nanC_spec x h)
noncomputable abbrev ent_nanC : FuncId × List Nat × Tab := (114, [], tab_nanC)
attribute [go_sem] tab_nanC_eq
theorem lessC_spec (x : Int) (y : Int) (hpre : True) : Ret Try.prog 92 [intP x, intP y] (boolP (decide (x < y))) := by
  refine fn_of (T := [ent_nanC]) (N := 17) (RO := []) (CH := []) (KS := [0, 1, 4]) (NS := []) (fun args w => Try.call92 args w) Try.func92 rfl rfl (by simp) mixed (by kernel_rfl) ⟨tab_nanC_ok, trivial⟩ ?_
  simp only [go_sem, ↓reduceIte, Nat.reduceLT, Nat.reduceLeDiff, Nat.reduceEqDiff, Nat.reduceAdd, Nat.reduceSub, Nat.reduceDiv, Nat.reduceMod, Nat.reduceMul, Nat.reduceBEq, Nat.reduceBNe, reduceCtorEq, Int.reduceLT, Int.reduceLE, Int.reduceEq, Int.reduceNe, Int.reduceBEq, Int.reduceBNe, Int.reduceAdd, Int.reduceSub, Int.reduceNeg, Int.reduceToNat]
  by_cases h : x < y
  · simp only [go_sem, ↓reduceIte, Nat.reduceLT, Nat.reduceLeDiff, Nat.reduceEqDiff, Nat.reduceAdd, Nat.reduceSub, Nat.reduceDiv, Nat.reduceMod, Nat.reduceMul, Nat.reduceBEq, Nat.reduceBNe, reduceCtorEq, Int.reduceLT, Int.reduceLE, Int.reduceEq, Int.reduceNe, Int.reduceBEq, Int.reduceBNe, Int.reduceAdd, Int.reduceSub, Int.reduceNeg, Int.reduceToNat, h]
    exact ex_le_refl rfl
  · simp only [go_sem, ↓reduceIte, Nat.reduceLT, Nat.reduceLeDiff, Nat.reduceEqDiff, Nat.reduceAdd, Nat.reduceSub, Nat.reduceDiv, Nat.reduceMod, Nat.reduceMul, Nat.reduceBEq, Nat.reduceBNe, reduceCtorEq, Int.reduceLT, Int.reduceLE, Int.reduceEq, Int.reduceNe, Int.reduceBEq, Int.reduceBNe, Int.reduceAdd, Int.reduceSub, Int.reduceNeg, Int.reduceToNat, h]
    exact ex_le_refl rfl
noncomputable def tab_lessC : Tab := tabOf (fun p : (Int) × (Int) => match p with | (x, y) => [intP x, intP y]) (fun p : (Int) × (Int) => match p with | (x, y) => True) (fun p : (Int) × (Int) => match p with | (x, y) => boolP (decide (x < y)))
theorem tab_lessC_eq (x : Int) (y : Int) : tab_lessC [intP x, intP y] = some (True, .p (boolP (decide (x < y)))) := tabOf_eq (enc := fun p : (Int) × (Int) => match p with | (x, y) => [intP x, intP y]) (pre := fun p : (Int) × (Int) => match p with | (x, y) => True) (out := fun p : (Int) × (Int) => match p with | (x, y) => boolP (decide (x < y))) (by rintro ⟨x, y⟩ ⟨x', y'⟩ h; simp at h; first | (simp [h]; done) | omega | (simp [h]; omega)) (x, y)
theorem tab_lessC_ok : TabOK Try.prog 92 tab_lessC := tabOf_ok (by rintro ⟨x, y⟩ h; exact lessC_spec x y h)
noncomputable abbrev ent_lessC : FuncId × List Nat × Tab := (92, [], tab_lessC)
attribute [go_sem] tab_lessC_eq

/-- how many are less -/
def lessN (l : List Int) (x : Int) : Nat := (l.takeWhile (· < x)).length
theorem lessN_eq {l : List Int} {x : Int} {i : Nat} (hi : i ≤ l.length) (h1 : ∀ k y, k < i → l[k]? = some y → y < x) (h2 : ∀ y, l[i]? = some y → x ≤ y) : lessN l x = i := by
  unfold lessN
  induction l generalizing i with
  | nil => simp at hi; simp [hi]
  | cons z l ih =>
    cases i with
    | zero =>
      have := h2 z rfl
      rw [List.takeWhile_cons, if_neg (by simp; omega)]; rfl
    | succ i =>
      have := h1 0 z (by omega) rfl
      rw [List.takeWhile_cons, if_pos (by simpa using this), List.length_cons, ih (by simpa using hi) (fun k y hk hy => h1 (k + 1) y (by omega) (by simpa using hy)) (fun y hy => h2 y (by simpa using hy))]
def foundB (l : List Int) (x : Int) : Bool := decide (l[lessN l x]? = some x)

theorem bsearch_spec (l : List Int) (x : Int) (hpre : l.length ≤ 65536 ∧ R5.Rises l) : Ret Try.prog 68 [ints l, intP x] (.tuple [natP (lessN l x), boolP (foundB l x)]) := by
  refine fn_of (T := [ent_lessC, ent_nanS]) (N := 54) (RO := []) (CH := []) (KS := [0, 1, 4, 5, 6, 7, 8, 9, 15, 27]) (NS := []) (fun args w => Try.call68 args w) Try.func68 rfl rfl (by simp) mixed (by kernel_rfl) ⟨tab_lessC_ok, tab_nanS_ok, trivial⟩ ?_
  simp only [go_sem, ↓reduceIte, Nat.reduceLT, Nat.reduceLeDiff, Nat.reduceEqDiff, Nat.reduceAdd, Nat.reduceSub, Nat.reduceDiv, Nat.reduceMod, Nat.reduceMul, Nat.reduceBEq, Nat.reduceBNe, reduceCtorEq, Int.reduceLT, Int.reduceLE, Int.reduceEq, Int.reduceNe, Int.reduceBEq, Int.reduceBNe, Int.reduceAdd, Int.reduceSub, Int.reduceNeg, Int.reduceToNat]
  obtain ⟨hlen, hris⟩ := hpre
  refine vwhile [0,1,6,7,8] [] [] (fun d : Nat × Nat => d.1 ≤ d.2 ∧ d.2 ≤ l.length ∧ (∀ k y, k < d.1 → l[k]? = some y → y < x) ∧ ∀ k y, d.2 ≤ k → l[k]? = some y → x ≤ y) (fun d => d.2 - d.1) (fun d => ⟨[(0,.p (ints l)),(1,.p (intP x)),(6,.p (natP l.length)),(7,.p (natP d.1)),(8,.p (natP d.2))], []⟩) (0, l.length) (by first | rfl | (simp only [go_sem, ↓reduceIte, Nat.reduceLT, Nat.reduceLeDiff, Nat.reduceEqDiff, Nat.reduceAdd, Nat.reduceSub, Nat.reduceDiv, Nat.reduceMod, Nat.reduceMul, Nat.reduceBEq, Nat.reduceBNe, reduceCtorEq, Int.reduceLT, Int.reduceLE, Int.reduceEq, Int.reduceNe, Int.reduceBEq, Int.reduceBNe, Int.reduceAdd, Int.reduceSub, Int.reduceNeg, Int.reduceToNat]; first | done | rfl)) ⟨Nat.zero_le _, Nat.le_refl _, fun k y h => absurd h (Nat.not_lt_zero _), fun k y h hy => by have := lt_get hy; omega⟩ ?_
  rintro ⟨i, j⟩ ⟨h1, h2, h3, h4⟩
  simp only at h1 h2 h3 h4
  have hris' : ∀ (a b : Nat) u v, a ≤ b → l[a]? = some u → l[b]? = some v → u ≤ v := fun a b u v hab hu hv => by
    by_cases e : a = b
    · subst e; rw [hu] at hv; simp only [Option.some.injEq] at hv; omega
    · obtain ⟨ha, rfl⟩ := List.getElem?_eq_some_iff.1 hu
      obtain ⟨hb, rfl⟩ := List.getElem?_eq_some_iff.1 hv
      exact List.pairwise_iff_getElem.1 hris a b ha hb (by omega)
  by_cases hlt : i < j
  · have hh2 : ((i : Int) + (j : Int)) / 2 = (((i + j) / 2 : Nat) : Int) := by omega
    have hm : (i + j) / 2 < l.length := by omega
    obtain ⟨y, hy⟩ := get_some hm
    by_cases hyx : y < x
    · simp only [go_sem, ↓reduceIte, Nat.reduceLT, Nat.reduceLeDiff, Nat.reduceEqDiff, Nat.reduceAdd, Nat.reduceSub, Nat.reduceDiv, Nat.reduceMod, Nat.reduceMul, Nat.reduceBEq, Nat.reduceBNe, reduceCtorEq, Int.reduceLT, Int.reduceLE, Int.reduceEq, Int.reduceNe, Int.reduceBEq, Int.reduceBNe, Int.reduceAdd, Int.reduceSub, Int.reduceNeg, Int.reduceToNat, hlt, hh2, lof_getD hy, hyx, Int.reducePow, Int.pow_one]
      refine ⟨by rw [InK_i64]; omega, by rw [InK_u64]; omega, by omega, by rw [InK_i64]; omega, by omega, by rw [InK_i64]; omega, ⟨((i + j) / 2 + 1, j), by show j - ((i + j) / 2 + 1) < j - i; omega, ⟨by show (i + j) / 2 + 1 ≤ j; omega, h2, fun k u hk hu => ?_, h4⟩, rfl⟩⟩
      have := hris' k ((i + j) / 2) u y (by have : k < (i + j) / 2 + 1 := hk; omega) hu hy
      omega
    · simp only [go_sem, ↓reduceIte, Nat.reduceLT, Nat.reduceLeDiff, Nat.reduceEqDiff, Nat.reduceAdd, Nat.reduceSub, Nat.reduceDiv, Nat.reduceMod, Nat.reduceMul, Nat.reduceBEq, Nat.reduceBNe, reduceCtorEq, Int.reduceLT, Int.reduceLE, Int.reduceEq, Int.reduceNe, Int.reduceBEq, Int.reduceBNe, Int.reduceAdd, Int.reduceSub, Int.reduceNeg, Int.reduceToNat, hlt, hh2, lof_getD hy, hyx, Int.reducePow, Int.pow_one]
      refine ⟨by rw [InK_i64]; omega, by rw [InK_u64]; omega, by omega, by rw [InK_i64]; omega, by omega, ⟨(i, (i + j) / 2), by show (i + j) / 2 - i < j - i; omega, ⟨by show i ≤ (i + j) / 2; omega, by show (i + j) / 2 ≤ l.length; omega, h3, fun k u hk hu => ?_⟩, rfl⟩⟩
      have := hris' ((i + j) / 2) k y u hk hy hu
      omega
  · obtain rfl : i = j := by omega
    have he := lessN_eq (l := l) (x := x) (i := i) h2 h3 (fun y hy => h4 i y (Nat.le_refl _) hy)
    unfold foundB
    rw [he]
    by_cases hl : i < l.length
    · obtain ⟨y, hy⟩ := get_some hl
      rw [hy]
      by_cases hyx : y = x
      · have e1 : (y == x) = true := by simp [hyx]
        simp only [go_sem, ↓reduceIte, Nat.reduceLT, Nat.reduceLeDiff, Nat.reduceEqDiff, Nat.reduceAdd, Nat.reduceSub, Nat.reduceDiv, Nat.reduceMod, Nat.reduceMul, Nat.reduceBEq, Nat.reduceBNe, reduceCtorEq, Int.reduceLT, Int.reduceLE, Int.reduceEq, Int.reduceNe, Int.reduceBEq, Int.reduceBNe, Int.reduceAdd, Int.reduceSub, Int.reduceNeg, Int.reduceToNat, hlt, hl, lof_getD hy, e1]
        rw [decide_eq_true (show some y = some x by rw [hyx])]
        exact ex_le_refl rfl
      · have e1 : (y == x) = false := by simp [hyx]
        simp only [go_sem, ↓reduceIte, Nat.reduceLT, Nat.reduceLeDiff, Nat.reduceEqDiff, Nat.reduceAdd, Nat.reduceSub, Nat.reduceDiv, Nat.reduceMod, Nat.reduceMul, Nat.reduceBEq, Nat.reduceBNe, reduceCtorEq, Int.reduceLT, Int.reduceLE, Int.reduceEq, Int.reduceNe, Int.reduceBEq, Int.reduceBNe, Int.reduceAdd, Int.reduceSub, Int.reduceNeg, Int.reduceToNat, hlt, hl, lof_getD hy, e1]
        rw [decide_eq_false (show ¬ some y = some x by simpa using hyx)]
        exact ex_le_refl rfl
    · have hn : l[i]? = none := List.getElem?_eq_none_iff.2 (by omega)
      rw [hn]
      simp only [go_sem, ↓reduceIte, Nat.reduceLT, Nat.reduceLeDiff, Nat.reduceEqDiff, Nat.reduceAdd, Nat.reduceSub, Nat.reduceDiv, Nat.reduceMod, Nat.reduceMul, Nat.reduceBEq, Nat.reduceBNe, reduceCtorEq, Int.reduceLT, Int.reduceLE, Int.reduceEq, Int.reduceNe, Int.reduceBEq, Int.reduceBNe, Int.reduceAdd, Int.reduceSub, Int.reduceNeg, Int.reduceToNat, hlt, hl]
      exact ex_le_refl (by simp)
noncomputable def tab_bsearch : Tab := tabOf (fun p : (List Int) × (Int) => match p with | (l, x) => [ints l, intP x]) (fun p : (List Int) × (Int) => match p with | (l, x) => l.length ≤ 65536 ∧ R5.Rises l) (fun p : (List Int) × (Int) => match p with | (l, x) => .tuple [natP (lessN l x), boolP (foundB l x)])
theorem tab_bsearch_eq (l : List Int) (x : Int) : tab_bsearch [ints l, intP x] = some (l.length ≤ 65536 ∧ R5.Rises l, .p (.tuple [natP (lessN l x), boolP (foundB l x)])) := tabOf_eq (enc := fun p : (List Int) × (Int) => match p with | (l, x) => [ints l, intP x]) (pre := fun p : (List Int) × (Int) => match p with | (l, x) => l.length ≤ 65536 ∧ R5.Rises l) (out := fun p : (List Int) × (Int) => match p with | (l, x) => .tuple [natP (lessN l x), boolP (foundB l x)]) (by rintro ⟨l, x⟩ ⟨l', x'⟩ h; simp at h; first | (simp [h]; done) | omega | (simp [h]; omega)) (l, x)
theorem tab_bsearch_ok : TabOK Try.prog 68 tab_bsearch := tabOf_ok (by rintro ⟨l, x⟩ h; exact bsearch_spec l x h)
noncomputable abbrev ent_bsearch : FuncId × List Nat × Tab := (68, [1,0], tab_bsearch)
attribute [go_sem] tab_bsearch_eq
end Go.V
