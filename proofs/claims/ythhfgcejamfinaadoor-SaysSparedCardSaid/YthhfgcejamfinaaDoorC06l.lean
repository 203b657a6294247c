/-
  Contracts of the law's small functions. Conditions: none.
-/
import Derived.Test.YthhfgcejamfinaaDoorC06v
set_option linter.unusedVariables false
set_option linter.unusedSimpArgs false
set_option linter.deprecated false
namespace Go.V
open Go.Proofs
set_option maxRecDepth 10000
set_option maxHeartbeats 1000000

theorem take_eq_succ {α : Type} {a b : List α} {k : Nat} {x : α} (h : a.take k = b.take k) (ha : a[k]? = some x) (hb : b[k]? = some x) : a.take (k + 1) = b.take (k + 1) := by
  rw [R6.take_succ_of ha, R6.take_succ_of hb, h]
theorem ne_of_get {α : Type} {a b : List α} {k : Nat} {x y : α} (ha : a[k]? = some x) (hb : b[k]? = some y) (h : x ≠ y) : a ≠ b := fun e => by
  subst e; rw [ha] at hb; exact h (by simpa using hb)

theorem same_spec (a : List Int) (b : List Int) (hpre : sz a.length) : Ret Tryd.prog 24 [ints a, ints b] (boolP (decide (a = b))) := by
  refine fn_of (T := []) (N := 26) (RO := []) (CH := []) (KS := [0, 1, 4, 5, 10, 14, 25]) (NS := []) (fun args w => Tryd.call24 args w) Tryd.func24 rfl rfl (by simp) mixed (by kernel_rfl) trivial ?_
  simp only [go_sem, ↓reduceIte, Nat.reduceLT, Nat.reduceLeDiff, Nat.reduceEqDiff, Nat.reduceAdd, Nat.reduceSub, Nat.reduceMul, Nat.reduceBEq, reduceCtorEq, Int.reduceLT, Int.reduceLE, Int.reduceEq, Int.reduceNe, Int.reduceBEq, Int.reduceBNe, Int.reduceAdd, Int.reduceSub, Int.reduceNeg, Int.reduceToNat, beq_self_eq_true, Option.all_some, Option.all_none, Option.some_beq_some, Bool.and_self, List.size_toArray, cond_true, cond_false, beq_true, beq_false, bne_self_eq_false, List.append_eq]
  by_cases hl : (a.length : Int) = b.length
  · simp only [go_sem, ↓reduceIte, Nat.reduceLT, Nat.reduceLeDiff, Nat.reduceEqDiff, Nat.reduceAdd, Nat.reduceSub, Nat.reduceMul, Nat.reduceBEq, reduceCtorEq, Int.reduceLT, Int.reduceLE, Int.reduceEq, Int.reduceNe, Int.reduceBEq, Int.reduceBNe, Int.reduceAdd, Int.reduceSub, Int.reduceNeg, Int.reduceToNat, beq_self_eq_true, Option.all_some, Option.all_none, Option.some_beq_some, Bool.and_self, List.size_toArray, cond_true, cond_false, beq_true, beq_false, bne_self_eq_false, List.append_eq, show ((a.length : Int) != (b.length : Int)) = false by simp; omega]
    refine vfor [0,1,5] [] [] a.length (fun k => a.take k = b.take k) (fun k => ⟨[(0,.p (ints a)),(1,.p (ints b)),(5,.p (natP k))], []⟩) rfl (by simp) ?_
    intro k hk hI
    by_cases hlt : k < a.length
    · obtain ⟨x, hx⟩ := get_some hlt
      have hlb : k < b.length := by omega
      obtain ⟨y, hy⟩ := get_some hlb
      by_cases e : x = y
      · subst e
        have := take_eq_succ hI hx hy
        simp only [go_sem, ↓reduceIte, Nat.reduceLT, Nat.reduceLeDiff, Nat.reduceEqDiff, Nat.reduceAdd, Nat.reduceSub, Nat.reduceMul, Nat.reduceBEq, reduceCtorEq, Int.reduceLT, Int.reduceLE, Int.reduceEq, Int.reduceNe, Int.reduceBEq, Int.reduceBNe, Int.reduceAdd, Int.reduceSub, Int.reduceNeg, Int.reduceToNat, beq_self_eq_true, Option.all_some, Option.all_none, Option.some_beq_some, Bool.and_self, List.size_toArray, cond_true, cond_false, beq_true, beq_false, bne_self_eq_false, List.append_eq, hlt, hlb, lof_getD hx, lof_getD hy]
        (repeat' (first | assumption | (rw [InK_i64]; omega) | (rw [InK_u8]; omega) | (rw [InK_u64]; omega) | omega | rfl | apply And.intro))
      · simp only [go_sem, ↓reduceIte, Nat.reduceLT, Nat.reduceLeDiff, Nat.reduceEqDiff, Nat.reduceAdd, Nat.reduceSub, Nat.reduceMul, Nat.reduceBEq, reduceCtorEq, Int.reduceLT, Int.reduceLE, Int.reduceEq, Int.reduceNe, Int.reduceBEq, Int.reduceBNe, Int.reduceAdd, Int.reduceSub, Int.reduceNeg, Int.reduceToNat, beq_self_eq_true, Option.all_some, Option.all_none, Option.some_beq_some, Bool.and_self, List.size_toArray, cond_true, cond_false, beq_true, beq_false, bne_self_eq_false, List.append_eq, hlt, hlb, lof_getD hx, lof_getD hy, show (x != y) = true by simp [e]]
        exact ex_le_refl (by simp [ne_of_get hx hy e])
    · simp only [go_sem, ↓reduceIte, Nat.reduceLT, Nat.reduceLeDiff, Nat.reduceEqDiff, Nat.reduceAdd, Nat.reduceSub, Nat.reduceMul, Nat.reduceBEq, reduceCtorEq, Int.reduceLT, Int.reduceLE, Int.reduceEq, Int.reduceNe, Int.reduceBEq, Int.reduceBNe, Int.reduceAdd, Int.reduceSub, Int.reduceNeg, Int.reduceToNat, beq_self_eq_true, Option.all_some, Option.all_none, Option.some_beq_some, Bool.and_self, List.size_toArray, cond_true, cond_false, beq_true, beq_false, bne_self_eq_false, List.append_eq, hlt]
      rw [take_all hk hlt, List.take_of_length_le (by omega)] at hI
      exact ex_le_refl (by simp [hI])
  · simp only [go_sem, ↓reduceIte, Nat.reduceLT, Nat.reduceLeDiff, Nat.reduceEqDiff, Nat.reduceAdd, Nat.reduceSub, Nat.reduceMul, Nat.reduceBEq, reduceCtorEq, Int.reduceLT, Int.reduceLE, Int.reduceEq, Int.reduceNe, Int.reduceBEq, Int.reduceBNe, Int.reduceAdd, Int.reduceSub, Int.reduceNeg, Int.reduceToNat, beq_self_eq_true, Option.all_some, Option.all_none, Option.some_beq_some, Bool.and_self, List.size_toArray, cond_true, cond_false, beq_true, beq_false, bne_self_eq_false, List.append_eq, show ((a.length : Int) != (b.length : Int)) = true by simp; omega]
    exact ex_le_refl (by simp; intro e; subst e; exact hl rfl)
noncomputable def tab_same : Tab := tabOf (fun p : (List Int) × (List Int) => match p with | (a, b) => [ints a, ints b]) (fun p : (List Int) × (List Int) => match p with | (a, b) => sz a.length) (fun p : (List Int) × (List Int) => match p with | (a, b) => boolP (decide (a = b)))
theorem tab_same_eq (a : List Int) (b : List Int) : tab_same [ints a, ints b] = some (sz a.length, .p (boolP (decide (a = b)))) := tabOf_eq (enc := fun p : (List Int) × (List Int) => match p with | (a, b) => [ints a, ints b]) (pre := fun p : (List Int) × (List Int) => match p with | (a, b) => sz a.length) (out := fun p : (List Int) × (List Int) => match p with | (a, b) => boolP (decide (a = b))) (by rintro ⟨a, b⟩ ⟨a', b'⟩ h; simp at h; first | (simp [h]; done) | omega | (simp [h]; omega)) (a, b)
theorem tab_same_ok : TabOK Tryd.prog 24 tab_same := tabOf_ok (by rintro ⟨a, b⟩ h; exact same_spec a b h)
noncomputable abbrev ent_same : FuncId × List Nat × Tab := (24, [1, 1], tab_same)
attribute [go_sem] tab_same_eq

theorem lists_spec (a : List (List Int)) (b : List (List Int)) (hpre : sz a.length ∧ ∀ r ∈ a, sz r.length) : Ret Tryd.prog 37 [rowsP a, rowsP b] (boolP (decide (a = b))) := by
  refine fn_of (T := [ent_same]) (N := 27) (RO := []) (CH := []) (KS := [0, 1, 4, 5, 10, 14, 26]) (NS := []) (fun args w => Tryd.call37 args w) Tryd.func37 rfl rfl (by simp) mixed (by kernel_rfl) ⟨tab_same_ok, trivial⟩ ?_
  simp only [go_sem, ↓reduceIte, Nat.reduceLT, Nat.reduceLeDiff, Nat.reduceEqDiff, Nat.reduceAdd, Nat.reduceSub, Nat.reduceMul, Nat.reduceBEq, reduceCtorEq, Int.reduceLT, Int.reduceLE, Int.reduceEq, Int.reduceNe, Int.reduceBEq, Int.reduceBNe, Int.reduceAdd, Int.reduceSub, Int.reduceNeg, Int.reduceToNat, beq_self_eq_true, Option.all_some, Option.all_none, Option.some_beq_some, Bool.and_self, List.size_toArray, cond_true, cond_false, beq_true, beq_false, bne_self_eq_false, List.append_eq]
  by_cases hl : (a.length : Int) = b.length
  · simp only [go_sem, ↓reduceIte, Nat.reduceLT, Nat.reduceLeDiff, Nat.reduceEqDiff, Nat.reduceAdd, Nat.reduceSub, Nat.reduceMul, Nat.reduceBEq, reduceCtorEq, Int.reduceLT, Int.reduceLE, Int.reduceEq, Int.reduceNe, Int.reduceBEq, Int.reduceBNe, Int.reduceAdd, Int.reduceSub, Int.reduceNeg, Int.reduceToNat, beq_self_eq_true, Option.all_some, Option.all_none, Option.some_beq_some, Bool.and_self, List.size_toArray, cond_true, cond_false, beq_true, beq_false, bne_self_eq_false, List.append_eq, show ((a.length : Int) != (b.length : Int)) = false by simp; omega]
    have ha := hpre.1
    refine vfor [0,1,5] [] [] a.length (fun k => a.take k = b.take k) (fun k => ⟨[(0,.p (rowsP a)),(1,.p (rowsP b)),(5,.p (natP k))], []⟩) rfl (by simp) ?_
    intro k hk hI
    by_cases hlt : k < a.length
    · obtain ⟨x, hx⟩ := get_some hlt
      have hxz := hpre.2 x (List.mem_of_getElem? hx)
      have hlb : k < b.length := by omega
      obtain ⟨y, hy⟩ := get_some hlb
      by_cases e : x = y
      · subst e
        have := take_eq_succ hI hx hy
        simp only [go_sem, ↓reduceIte, Nat.reduceLT, Nat.reduceLeDiff, Nat.reduceEqDiff, Nat.reduceAdd, Nat.reduceSub, Nat.reduceMul, Nat.reduceBEq, reduceCtorEq, Int.reduceLT, Int.reduceLE, Int.reduceEq, Int.reduceNe, Int.reduceBEq, Int.reduceBNe, Int.reduceAdd, Int.reduceSub, Int.reduceNeg, Int.reduceToNat, beq_self_eq_true, Option.all_some, Option.all_none, Option.some_beq_some, Bool.and_self, List.size_toArray, cond_true, cond_false, beq_true, beq_false, bne_self_eq_false, List.append_eq, hlt, hlb, lof_getD hx, lof_getD hy]
        (repeat' (first | assumption | (rw [InK_i64]; omega) | (rw [InK_u8]; omega) | (rw [InK_u64]; omega) | omega | rfl | apply And.intro))
      · simp only [go_sem, ↓reduceIte, Nat.reduceLT, Nat.reduceLeDiff, Nat.reduceEqDiff, Nat.reduceAdd, Nat.reduceSub, Nat.reduceMul, Nat.reduceBEq, reduceCtorEq, Int.reduceLT, Int.reduceLE, Int.reduceEq, Int.reduceNe, Int.reduceBEq, Int.reduceBNe, Int.reduceAdd, Int.reduceSub, Int.reduceNeg, Int.reduceToNat, beq_self_eq_true, Option.all_some, Option.all_none, Option.some_beq_some, Bool.and_self, List.size_toArray, cond_true, cond_false, beq_true, beq_false, bne_self_eq_false, List.append_eq, hlt, hlb, lof_getD hx, lof_getD hy, e]
        exact ⟨hxz, ex_le_refl (by simp [ne_of_get hx hy e])⟩
    · simp only [go_sem, ↓reduceIte, Nat.reduceLT, Nat.reduceLeDiff, Nat.reduceEqDiff, Nat.reduceAdd, Nat.reduceSub, Nat.reduceMul, Nat.reduceBEq, reduceCtorEq, Int.reduceLT, Int.reduceLE, Int.reduceEq, Int.reduceNe, Int.reduceBEq, Int.reduceBNe, Int.reduceAdd, Int.reduceSub, Int.reduceNeg, Int.reduceToNat, beq_self_eq_true, Option.all_some, Option.all_none, Option.some_beq_some, Bool.and_self, List.size_toArray, cond_true, cond_false, beq_true, beq_false, bne_self_eq_false, List.append_eq, hlt]
      rw [take_all hk hlt, List.take_of_length_le (by omega)] at hI
      exact ex_le_refl (by simp [hI])
  · simp only [go_sem, ↓reduceIte, Nat.reduceLT, Nat.reduceLeDiff, Nat.reduceEqDiff, Nat.reduceAdd, Nat.reduceSub, Nat.reduceMul, Nat.reduceBEq, reduceCtorEq, Int.reduceLT, Int.reduceLE, Int.reduceEq, Int.reduceNe, Int.reduceBEq, Int.reduceBNe, Int.reduceAdd, Int.reduceSub, Int.reduceNeg, Int.reduceToNat, beq_self_eq_true, Option.all_some, Option.all_none, Option.some_beq_some, Bool.and_self, List.size_toArray, cond_true, cond_false, beq_true, beq_false, bne_self_eq_false, List.append_eq, show ((a.length : Int) != (b.length : Int)) = true by simp; omega]
    exact ex_le_refl (by simp; intro e; subst e; exact hl rfl)
noncomputable def tab_lists : Tab := tabOf (fun p : (List (List Int)) × (List (List Int)) => match p with | (a, b) => [rowsP a, rowsP b]) (fun p : (List (List Int)) × (List (List Int)) => match p with | (a, b) => sz a.length ∧ ∀ r ∈ a, sz r.length) (fun p : (List (List Int)) × (List (List Int)) => match p with | (a, b) => boolP (decide (a = b)))
theorem tab_lists_eq (a : List (List Int)) (b : List (List Int)) : tab_lists [rowsP a, rowsP b] = some (sz a.length ∧ ∀ r ∈ a, sz r.length, .p (boolP (decide (a = b)))) := tabOf_eq (enc := fun p : (List (List Int)) × (List (List Int)) => match p with | (a, b) => [rowsP a, rowsP b]) (pre := fun p : (List (List Int)) × (List (List Int)) => match p with | (a, b) => sz a.length ∧ ∀ r ∈ a, sz r.length) (out := fun p : (List (List Int)) × (List (List Int)) => match p with | (a, b) => boolP (decide (a = b))) (by rintro ⟨a, b⟩ ⟨a', b'⟩ h; simp at h; first | (simp [h]; done) | omega | (simp [h]; omega)) (a, b)
theorem tab_lists_ok : TabOK Tryd.prog 37 tab_lists := tabOf_ok (by rintro ⟨a, b⟩ h; exact lists_spec a b h)
noncomputable abbrev ent_lists : FuncId × List Nat × Tab := (37, [1, 1], tab_lists)
attribute [go_sem] tab_lists_eq

theorem sentences_spec (a : List (List Int × List Int)) (b : List (List Int × List Int)) (hpre : sz a.length ∧ BkOK a) : Ret Tryd.prog 36 [sents a, sents b] (boolP (decide (a = b))) := by
  refine fn_of (T := [ent_same]) (N := 43) (RO := []) (CH := []) (KS := [0, 1, 4, 5, 10, 14, 42]) (NS := []) (fun args w => Tryd.call36 args w) Tryd.func36 rfl rfl (by simp) mixed (by kernel_rfl) ⟨tab_same_ok, trivial⟩ ?_
  simp only [go_sem, ↓reduceIte, Nat.reduceLT, Nat.reduceLeDiff, Nat.reduceEqDiff, Nat.reduceAdd, Nat.reduceSub, Nat.reduceMul, Nat.reduceBEq, reduceCtorEq, Int.reduceLT, Int.reduceLE, Int.reduceEq, Int.reduceNe, Int.reduceBEq, Int.reduceBNe, Int.reduceAdd, Int.reduceSub, Int.reduceNeg, Int.reduceToNat, beq_self_eq_true, Option.all_some, Option.all_none, Option.some_beq_some, Bool.and_self, List.size_toArray, cond_true, cond_false, beq_true, beq_false, bne_self_eq_false, List.append_eq]
  by_cases hl : (a.length : Int) = b.length
  · simp only [go_sem, ↓reduceIte, Nat.reduceLT, Nat.reduceLeDiff, Nat.reduceEqDiff, Nat.reduceAdd, Nat.reduceSub, Nat.reduceMul, Nat.reduceBEq, reduceCtorEq, Int.reduceLT, Int.reduceLE, Int.reduceEq, Int.reduceNe, Int.reduceBEq, Int.reduceBNe, Int.reduceAdd, Int.reduceSub, Int.reduceNeg, Int.reduceToNat, beq_self_eq_true, Option.all_some, Option.all_none, Option.some_beq_some, Bool.and_self, List.size_toArray, cond_true, cond_false, beq_true, beq_false, bne_self_eq_false, List.append_eq, show ((a.length : Int) != (b.length : Int)) = false by simp; omega]
    have ha := hpre.1
    refine vfor [0,1,5] [] [] a.length (fun k => a.take k = b.take k) (fun k => ⟨[(0,.p (sents a)),(1,.p (sents b)),(5,.p (natP k))], []⟩) rfl (by simp) ?_
    intro k hk hI
    by_cases hlt : k < a.length
    · obtain ⟨x, hx⟩ := get_some hlt
      have hxz := hpre.2.at hx
      have hlb : k < b.length := by omega
      obtain ⟨y, hy⟩ := get_some hlb
      by_cases e1 : x.1 = y.1
      · by_cases e2 : x.2 = y.2
        · have e : x = y := Prod.ext e1 e2
          subst e
          have := take_eq_succ hI hx hy
          simp only [go_sem, ↓reduceIte, Nat.reduceLT, Nat.reduceLeDiff, Nat.reduceEqDiff, Nat.reduceAdd, Nat.reduceSub, Nat.reduceMul, Nat.reduceBEq, reduceCtorEq, Int.reduceLT, Int.reduceLE, Int.reduceEq, Int.reduceNe, Int.reduceBEq, Int.reduceBNe, Int.reduceAdd, Int.reduceSub, Int.reduceNeg, Int.reduceToNat, beq_self_eq_true, Option.all_some, Option.all_none, Option.some_beq_some, Bool.and_self, List.size_toArray, cond_true, cond_false, beq_true, beq_false, bne_self_eq_false, List.append_eq, hlt, hlb, lof_getD hx, lof_getD hy, hxz.1, hxz.2]
          (repeat' (first | assumption | (rw [InK_i64]; omega) | (rw [InK_u8]; omega) | (rw [InK_u64]; omega) | omega | rfl | apply And.intro))
        · simp only [go_sem, ↓reduceIte, Nat.reduceLT, Nat.reduceLeDiff, Nat.reduceEqDiff, Nat.reduceAdd, Nat.reduceSub, Nat.reduceMul, Nat.reduceBEq, reduceCtorEq, Int.reduceLT, Int.reduceLE, Int.reduceEq, Int.reduceNe, Int.reduceBEq, Int.reduceBNe, Int.reduceAdd, Int.reduceSub, Int.reduceNeg, Int.reduceToNat, beq_self_eq_true, Option.all_some, Option.all_none, Option.some_beq_some, Bool.and_self, List.size_toArray, cond_true, cond_false, beq_true, beq_false, bne_self_eq_false, List.append_eq, hlt, hlb, lof_getD hx, lof_getD hy, e1, e2, hxz.2]
          exact ⟨by rw [← e1]; exact hxz.1, ex_le_refl (by simp [ne_of_get hx hy (fun e => e2 (by rw [e]))])⟩
      · simp only [go_sem, ↓reduceIte, Nat.reduceLT, Nat.reduceLeDiff, Nat.reduceEqDiff, Nat.reduceAdd, Nat.reduceSub, Nat.reduceMul, Nat.reduceBEq, reduceCtorEq, Int.reduceLT, Int.reduceLE, Int.reduceEq, Int.reduceNe, Int.reduceBEq, Int.reduceBNe, Int.reduceAdd, Int.reduceSub, Int.reduceNeg, Int.reduceToNat, beq_self_eq_true, Option.all_some, Option.all_none, Option.some_beq_some, Bool.and_self, List.size_toArray, cond_true, cond_false, beq_true, beq_false, bne_self_eq_false, List.append_eq, hlt, hlb, lof_getD hx, lof_getD hy, e1]
        exact ⟨hxz.1, ex_le_refl (by simp [ne_of_get hx hy (fun e => e1 (by rw [e]))])⟩
    · simp only [go_sem, ↓reduceIte, Nat.reduceLT, Nat.reduceLeDiff, Nat.reduceEqDiff, Nat.reduceAdd, Nat.reduceSub, Nat.reduceMul, Nat.reduceBEq, reduceCtorEq, Int.reduceLT, Int.reduceLE, Int.reduceEq, Int.reduceNe, Int.reduceBEq, Int.reduceBNe, Int.reduceAdd, Int.reduceSub, Int.reduceNeg, Int.reduceToNat, beq_self_eq_true, Option.all_some, Option.all_none, Option.some_beq_some, Bool.and_self, List.size_toArray, cond_true, cond_false, beq_true, beq_false, bne_self_eq_false, List.append_eq, hlt]
      rw [take_all hk hlt, List.take_of_length_le (by omega)] at hI
      exact ex_le_refl (by simp [hI])
  · simp only [go_sem, ↓reduceIte, Nat.reduceLT, Nat.reduceLeDiff, Nat.reduceEqDiff, Nat.reduceAdd, Nat.reduceSub, Nat.reduceMul, Nat.reduceBEq, reduceCtorEq, Int.reduceLT, Int.reduceLE, Int.reduceEq, Int.reduceNe, Int.reduceBEq, Int.reduceBNe, Int.reduceAdd, Int.reduceSub, Int.reduceNeg, Int.reduceToNat, beq_self_eq_true, Option.all_some, Option.all_none, Option.some_beq_some, Bool.and_self, List.size_toArray, cond_true, cond_false, beq_true, beq_false, bne_self_eq_false, List.append_eq, show ((a.length : Int) != (b.length : Int)) = true by simp; omega]
    exact ex_le_refl (by simp; intro e; subst e; exact hl rfl)
noncomputable def tab_sentences : Tab := tabOf (fun p : (List (List Int × List Int)) × (List (List Int × List Int)) => match p with | (a, b) => [sents a, sents b]) (fun p : (List (List Int × List Int)) × (List (List Int × List Int)) => match p with | (a, b) => sz a.length ∧ BkOK a) (fun p : (List (List Int × List Int)) × (List (List Int × List Int)) => match p with | (a, b) => boolP (decide (a = b)))
theorem tab_sentences_eq (a : List (List Int × List Int)) (b : List (List Int × List Int)) : tab_sentences [sents a, sents b] = some (sz a.length ∧ BkOK a, .p (boolP (decide (a = b)))) := tabOf_eq (enc := fun p : (List (List Int × List Int)) × (List (List Int × List Int)) => match p with | (a, b) => [sents a, sents b]) (pre := fun p : (List (List Int × List Int)) × (List (List Int × List Int)) => match p with | (a, b) => sz a.length ∧ BkOK a) (out := fun p : (List (List Int × List Int)) × (List (List Int × List Int)) => match p with | (a, b) => boolP (decide (a = b))) (by rintro ⟨a, b⟩ ⟨a', b'⟩ h; simp at h; first | (simp [h]; done) | omega | (simp [h]; omega)) (a, b)
theorem tab_sentences_ok : TabOK Tryd.prog 36 tab_sentences := tabOf_ok (by rintro ⟨a, b⟩ h; exact sentences_spec a b h)
noncomputable abbrev ent_sentences : FuncId × List Nat × Tab := (36, [2, 2], tab_sentences)
attribute [go_sem] tab_sentences_eq

def lgS (s : List Int × List Int) : Bool := decide (20 < s.1.length) || decide (20 < s.2.length)
def lgB (l : List (List Int × List Int)) : Bool := decide (20 < l.length) || l.any lgS
theorem lgB_ok {l : List (List Int × List Int)} (h : lgB l = false) : l.length ≤ 20 ∧ BkOK l := by
  unfold lgB at h
  simp only [Bool.or_eq_false_iff, decide_eq_false_iff_not] at h
  refine ⟨by omega, fun s hs => ?_⟩
  have := List.any_eq_false.1 h.2 s hs
  simp only [lgS, Bool.or_eq_true, decide_eq_true_eq, not_or] at this
  unfold sz; omega



theorem list_spec (l : List Int) (hpre : True) : Ret Tryd.prog 51 [ints l] (ints l) := by
  refine fn_of (T := []) (N := 4) (RO := []) (CH := []) (KS := [0, 2]) (NS := []) (fun args w => Tryd.call51 args w) Tryd.func51 rfl rfl (by simp) mixed (by kernel_rfl) trivial ?_
  simp only [go_sem, ↓reduceIte, Nat.reduceLT, Nat.reduceLeDiff, Nat.reduceEqDiff, Nat.reduceAdd, Nat.reduceSub, Nat.reduceMul, Nat.reduceBEq, reduceCtorEq, Int.reduceLT, Int.reduceLE, Int.reduceEq, Int.reduceNe, Int.reduceBEq, Int.reduceBNe, Int.reduceAdd, Int.reduceSub, Int.reduceNeg, Int.reduceToNat, beq_self_eq_true, Option.all_some, Option.all_none, Option.some_beq_some, Bool.and_self, List.size_toArray, cond_true, cond_false, beq_true, beq_false, bne_self_eq_false, List.append_eq]
  exact ex_le_refl rfl
noncomputable def tab_list : Tab := tabOf (fun p : (List Int) => match p with | l => [ints l]) (fun p : (List Int) => match p with | l => True) (fun p : (List Int) => match p with | l => ints l)
theorem tab_list_eq (l : List Int) : tab_list [ints l] = some (True, .p (ints l)) := tabOf_eq (enc := fun p : (List Int) => match p with | l => [ints l]) (pre := fun p : (List Int) => match p with | l => True) (out := fun p : (List Int) => match p with | l => ints l) (by rintro l l' h; simp at h; first | (simp [h]; done) | omega | (simp [h]; omega)) (l)
theorem tab_list_ok : TabOK Tryd.prog 51 tab_list := tabOf_ok (by rintro l h; exact list_spec l h)
noncomputable abbrev ent_list : FuncId × List Nat × Tab := (51, [1], tab_list)
attribute [go_sem] tab_list_eq
theorem sentence_spec (a : List Int) (b : List Int) (hpre : True) : Ret Tryd.prog 28 [ints a, ints b] (sentP (a, b)) := by
  refine fn_of (T := []) (N := 8) (RO := []) (CH := []) (KS := [0, 1, 4]) (NS := [4]) (fun args w => Tryd.call28 args w) Tryd.func28 rfl rfl (by simp) mixed (by kernel_rfl) trivial ?_
  simp only [go_sem, ↓reduceIte, Nat.reduceLT, Nat.reduceLeDiff, Nat.reduceEqDiff, Nat.reduceAdd, Nat.reduceSub, Nat.reduceMul, Nat.reduceBEq, reduceCtorEq, Int.reduceLT, Int.reduceLE, Int.reduceEq, Int.reduceNe, Int.reduceBEq, Int.reduceBNe, Int.reduceAdd, Int.reduceSub, Int.reduceNeg, Int.reduceToNat, beq_self_eq_true, Option.all_some, Option.all_none, Option.some_beq_some, Bool.and_self, List.size_toArray, cond_true, cond_false, beq_true, beq_false, bne_self_eq_false, List.append_eq]
  exact ex_le_refl rfl
noncomputable def tab_sentence : Tab := tabOf (fun p : (List Int) × (List Int) => match p with | (a, b) => [ints a, ints b]) (fun p : (List Int) × (List Int) => match p with | (a, b) => True) (fun p : (List Int) × (List Int) => match p with | (a, b) => sentP (a, b))
theorem tab_sentence_eq (a : List Int) (b : List Int) : tab_sentence [ints a, ints b] = some (True, .p (sentP (a, b))) := tabOf_eq (enc := fun p : (List Int) × (List Int) => match p with | (a, b) => [ints a, ints b]) (pre := fun p : (List Int) × (List Int) => match p with | (a, b) => True) (out := fun p : (List Int) × (List Int) => match p with | (a, b) => sentP (a, b)) (by rintro ⟨a, b⟩ ⟨a', b'⟩ h; simp at h; first | (simp [h]; done) | omega | (simp [h]; omega)) (a, b)
theorem tab_sentence_ok : TabOK Tryd.prog 28 tab_sentence := tabOf_ok (by rintro ⟨a, b⟩ h; exact sentence_spec a b h)
noncomputable abbrev ent_sentence : FuncId × List Nat × Tab := (28, [1, 1], tab_sentence)
attribute [go_sem] tab_sentence_eq
theorem book_spec (n : Int) (l : List (List Int × List Int)) (hpre : True) : Ret Tryd.prog 56 [intP n, sents l] (bookP n l) := by
  refine fn_of (T := []) (N := 8) (RO := []) (CH := []) (KS := [0, 1, 4]) (NS := [4]) (fun args w => Tryd.call56 args w) Tryd.func56 rfl rfl (by simp) mixed (by kernel_rfl) trivial ?_
  simp only [go_sem, ↓reduceIte, Nat.reduceLT, Nat.reduceLeDiff, Nat.reduceEqDiff, Nat.reduceAdd, Nat.reduceSub, Nat.reduceMul, Nat.reduceBEq, reduceCtorEq, Int.reduceLT, Int.reduceLE, Int.reduceEq, Int.reduceNe, Int.reduceBEq, Int.reduceBNe, Int.reduceAdd, Int.reduceSub, Int.reduceNeg, Int.reduceToNat, beq_self_eq_true, Option.all_some, Option.all_none, Option.some_beq_some, Bool.and_self, List.size_toArray, cond_true, cond_false, beq_true, beq_false, bne_self_eq_false, List.append_eq]
  exact ex_le_refl rfl
noncomputable def tab_book : Tab := tabOf (fun p : (Int) × (List (List Int × List Int)) => match p with | (n, l) => [intP n, sents l]) (fun p : (Int) × (List (List Int × List Int)) => match p with | (n, l) => True) (fun p : (Int) × (List (List Int × List Int)) => match p with | (n, l) => bookP n l)
theorem tab_book_eq (n : Int) (l : List (List Int × List Int)) : tab_book [intP n, sents l] = some (True, .p (bookP n l)) := tabOf_eq (enc := fun p : (Int) × (List (List Int × List Int)) => match p with | (n, l) => [intP n, sents l]) (pre := fun p : (Int) × (List (List Int × List Int)) => match p with | (n, l) => True) (out := fun p : (Int) × (List (List Int × List Int)) => match p with | (n, l) => bookP n l) (by rintro ⟨n, l⟩ ⟨n', l'⟩ h; simp at h; first | (simp [h]; done) | omega | (simp [h]; omega)) (n, l)
theorem tab_book_ok : TabOK Tryd.prog 56 tab_book := tabOf_ok (by rintro ⟨n, l⟩ h; exact book_spec n l h)
noncomputable abbrev ent_book : FuncId × List Nat × Tab := (56, [1, 2], tab_book)
attribute [go_sem] tab_book_eq
end Go.V
