/-
  Contracts of small functions of chapter 02. Conditions: none.
  The reductions of numerals and of ifs, put into the semantics' own set of simp rules, so that the long lists need not be written out.
-/
import Derived.Test.YthihkaohgencbaaDoorRndT
import Derived.Test.YthihkaohgencbaaDoorVObj
import Derived.Test.YthihkaohgencbaaDoorP2e
set_option linter.unusedVariables false
set_option linter.unusedSimpArgs false
set_option linter.deprecated false
namespace Go.V
open Go.Proofs
set_option maxRecDepth 10000
set_option maxHeartbeats 1000000

abbrev errP (n : Int) : PV := .val (.int .i64 n)
abbrev boolP (b : Bool) : PV := .val (.bool b)
/-- streets, and a map -/
abbrev stI (e : R2.EI) : PV := .agg [intP e.a, intP e.b]
abbrev stN (e : R2.E) : PV := .agg [natP e.a, natP e.b]
abbrev strI (L : List R2.EI) : PV := .list .any 2 (lof stI L)
abbrev strN (L : R2.G) : PV := .list .any 2 (lof stN L)
abbrev mapI (n : Int) (L : List R2.EI) : PV := .agg [intP n, strI L]
abbrev mapN (n : Nat) (L : R2.G) : PV := .agg [natP n, strN L]
abbrev lists (l : List (List Int)) : PV := .list .any 1 (lof ints l)
/-- the sizes at which the contracts are proved -/
abbrev sz (n : Nat) : Prop := n ≤ 16777216
theorem lof_inj {α : Type} {f : α → PV} (hf : ∀ a b, f a = f b → a = b) {l l' : List α} : lof f l = lof f l' ↔ l = l' := by
  constructor
  · intro h
    induction l generalizing l' with
    | nil => cases l' <;> simp_all [lof]
    | cons x l ih => cases l' with
      | nil => simp [lof] at h
      | cons y l' => simp only [lof, List.map_cons, List.cons.injEq] at h; rw [hf _ _ h.1, ih h.2]
  · intro h; rw [h]
@[simp] theorem lof_intP_inj {l l' : List Int} : lof intP l = lof intP l' ↔ l = l' := lof_inj (by intro a b h; simpa using h)
@[simp] theorem lof_ints_inj {l l' : List (List Int)} : lof ints l = lof ints l' ↔ l = l' := lof_inj (by intro a b h; simpa using h)
theorem get_some {α : Type} {l : List α} {k : Nat} (h : k < l.length) : ∃ x, l[k]? = some x := ⟨l[k], by simp [h]⟩
theorem take_succ_of {α : Type} {l : List α} {k : Nat} {x : α} (hx : l[k]? = some x) : l.take (k + 1) = l.take k ++ [x] := by
  rw [List.take_add_one, hx]; rfl

theorem list2_spec (l : List Int) (hpre : True) : Ret Tryd.prog 55 [ints l] (ints l) := by
  refine fn_of (T := []) (N := 4) (RO := []) (CH := []) (KS := [0, 2]) (NS := []) (fun args w => Tryd.call55 args w) Tryd.func55 rfl rfl (by simp) mixed (by kernel_rfl) trivial ?_
  simp only [go_sem, ↓reduceIte, Nat.reduceLT, Nat.reduceLeDiff, Nat.reduceEqDiff, Nat.reduceAdd, Nat.reduceSub, Nat.reduceDiv, Nat.reduceMod, Nat.reduceMul, Nat.reduceBEq, Nat.reduceBNe, reduceCtorEq, Int.reduceLT, Int.reduceLE, Int.reduceEq, Int.reduceNe, Int.reduceBEq, Int.reduceBNe, Int.reduceAdd, Int.reduceSub, Int.reduceNeg, Int.reduceToNat]
  exact ex_le_refl rfl
noncomputable def tab_list2 : Tab := tabOf (fun p : (List Int) => match p with | l => [ints l]) (fun p : (List Int) => match p with | l => True) (fun p : (List Int) => match p with | l => ints l)
theorem tab_list2_eq (l : List Int) : tab_list2 [ints l] = some (True, .p (ints l)) := tabOf_eq (enc := fun p : (List Int) => match p with | l => [ints l]) (pre := fun p : (List Int) => match p with | l => True) (out := fun p : (List Int) => match p with | l => ints l) (by rintro l l' h; simp at h; first | (simp [h]; done) | omega | (simp [h]; omega)) (l)
theorem tab_list2_ok : TabOK Tryd.prog 55 tab_list2 := tabOf_ok (by rintro l h; exact list2_spec l h)
noncomputable abbrev ent_list2 : FuncId × List Nat × Tab := (55, [1], tab_list2)
attribute [go_sem] tab_list2_eq

theorem same2_spec (a : List Int) (b : List Int) (hpre : sz a.length ∧ sz b.length) : Ret Tryd.prog 19 [ints a, ints b] (boolP (decide (a = b))) := by
  refine fn_of (T := []) (N := 26) (RO := []) (CH := []) (KS := [0, 1, 4, 5, 10, 14, 25]) (NS := []) (fun args w => Tryd.call19 args w) Tryd.func19 rfl rfl (by simp) mixed (by kernel_rfl) trivial ?_
  simp only [go_sem, ↓reduceIte, Nat.reduceLT, Nat.reduceLeDiff, Nat.reduceEqDiff, Nat.reduceAdd, Nat.reduceSub, Nat.reduceDiv, Nat.reduceMod, Nat.reduceMul, Nat.reduceBEq, Nat.reduceBNe, reduceCtorEq, Int.reduceLT, Int.reduceLE, Int.reduceEq, Int.reduceNe, Int.reduceBEq, Int.reduceBNe, Int.reduceAdd, Int.reduceSub, Int.reduceNeg, Int.reduceToNat]
  by_cases hl : a.length = b.length
  · have e0 : ((a.length : Int) != (b.length : Int)) = false := by simp [hl]
    simp only [go_sem, ↓reduceIte, Nat.reduceLT, Nat.reduceLeDiff, Nat.reduceEqDiff, Nat.reduceAdd, Nat.reduceSub, Nat.reduceDiv, Nat.reduceMod, Nat.reduceMul, Nat.reduceBEq, Nat.reduceBNe, reduceCtorEq, Int.reduceLT, Int.reduceLE, Int.reduceEq, Int.reduceNe, Int.reduceBEq, Int.reduceBNe, Int.reduceAdd, Int.reduceSub, Int.reduceNeg, Int.reduceToNat, e0]
    refine vfor [0,1,5] [] [] a.length (fun k => a.take k = b.take k) (fun k => ⟨[(0,.p (ints a)),(1,.p (ints b)),(5,.p (natP k))], []⟩) (by first | rfl | (simp only [go_sem, ↓reduceIte, Nat.reduceLT, Nat.reduceLeDiff, Nat.reduceEqDiff, Nat.reduceAdd, Nat.reduceSub, Nat.reduceDiv, Nat.reduceMod, Nat.reduceMul, Nat.reduceBEq, Nat.reduceBNe, reduceCtorEq, Int.reduceLT, Int.reduceLE, Int.reduceEq, Int.reduceNe, Int.reduceBEq, Int.reduceBNe, Int.reduceAdd, Int.reduceSub, Int.reduceNeg, Int.reduceToNat]; first | done | rfl)) (by simp) ?_
    intro k hk hI
    by_cases hlt : k < a.length
    · obtain ⟨x, hx⟩ := get_some hlt
      obtain ⟨y, hy⟩ := get_some (show k < b.length by omega)
      by_cases hxy : x = y
      · subst hxy
        simp only [go_sem, ↓reduceIte, Nat.reduceLT, Nat.reduceLeDiff, Nat.reduceEqDiff, Nat.reduceAdd, Nat.reduceSub, Nat.reduceDiv, Nat.reduceMod, Nat.reduceMul, Nat.reduceBEq, Nat.reduceBNe, reduceCtorEq, Int.reduceLT, Int.reduceLE, Int.reduceEq, Int.reduceNe, Int.reduceBEq, Int.reduceBNe, Int.reduceAdd, Int.reduceSub, Int.reduceNeg, Int.reduceToNat, hlt, lof_getD hx, lof_getD hy, bne_self_eq_false, show k < b.length by omega]
        have hI' : a.take (k + 1) = b.take (k + 1) := by rw [take_succ_of hx, take_succ_of hy, hI]
        obtain ⟨hp1, hp2⟩ := hpre
        (repeat' (first | assumption | (rw [InK_i64]; omega) | (rw [InK_u8]; omega) | (rw [InK_u64]; omega) | omega | rfl | apply And.intro))
      · simp only [go_sem, ↓reduceIte, Nat.reduceLT, Nat.reduceLeDiff, Nat.reduceEqDiff, Nat.reduceAdd, Nat.reduceSub, Nat.reduceDiv, Nat.reduceMod, Nat.reduceMul, Nat.reduceBEq, Nat.reduceBNe, reduceCtorEq, Int.reduceLT, Int.reduceLE, Int.reduceEq, Int.reduceNe, Int.reduceBEq, Int.reduceBNe, Int.reduceAdd, Int.reduceSub, Int.reduceNeg, Int.reduceToNat, hlt, lof_getD hx, lof_getD hy, show (x != y) = true by simp [hxy], show k < b.length by omega]
        refine ex_le_refl ?_
        have : a ≠ b := by rintro rfl; rw [hx] at hy; simp at hy; exact hxy hy
        simp [this]
    · simp only [go_sem, ↓reduceIte, Nat.reduceLT, Nat.reduceLeDiff, Nat.reduceEqDiff, Nat.reduceAdd, Nat.reduceSub, Nat.reduceDiv, Nat.reduceMod, Nat.reduceMul, Nat.reduceBEq, Nat.reduceBNe, reduceCtorEq, Int.reduceLT, Int.reduceLE, Int.reduceEq, Int.reduceNe, Int.reduceBEq, Int.reduceBNe, Int.reduceAdd, Int.reduceSub, Int.reduceNeg, Int.reduceToNat, hlt]
      have e1 : a.take k = a := List.take_of_length_le (by omega)
      have e2 : b.take k = b := List.take_of_length_le (by omega)
      rw [e1, e2] at hI
      exact ex_le_refl (by simp [hI])
  · have e0 : ((a.length : Int) != (b.length : Int)) = true := by simp; omega
    simp only [go_sem, ↓reduceIte, Nat.reduceLT, Nat.reduceLeDiff, Nat.reduceEqDiff, Nat.reduceAdd, Nat.reduceSub, Nat.reduceDiv, Nat.reduceMod, Nat.reduceMul, Nat.reduceBEq, Nat.reduceBNe, reduceCtorEq, Int.reduceLT, Int.reduceLE, Int.reduceEq, Int.reduceNe, Int.reduceBEq, Int.reduceBNe, Int.reduceAdd, Int.reduceSub, Int.reduceNeg, Int.reduceToNat, e0]
    have : a ≠ b := by rintro rfl; exact hl rfl
    exact ex_le_refl (by simp [this])
noncomputable def tab_same2 : Tab := tabOf (fun p : (List Int) × (List Int) => match p with | (a, b) => [ints a, ints b]) (fun p : (List Int) × (List Int) => match p with | (a, b) => sz a.length ∧ sz b.length) (fun p : (List Int) × (List Int) => match p with | (a, b) => boolP (decide (a = b)))
theorem tab_same2_eq (a : List Int) (b : List Int) : tab_same2 [ints a, ints b] = some (sz a.length ∧ sz b.length, .p (boolP (decide (a = b)))) := tabOf_eq (enc := fun p : (List Int) × (List Int) => match p with | (a, b) => [ints a, ints b]) (pre := fun p : (List Int) × (List Int) => match p with | (a, b) => sz a.length ∧ sz b.length) (out := fun p : (List Int) × (List Int) => match p with | (a, b) => boolP (decide (a = b))) (by rintro ⟨a, b⟩ ⟨a', b'⟩ h; simp at h; first | (simp [h]; done) | omega | (simp [h]; omega)) (a, b)
theorem tab_same2_ok : TabOK Tryd.prog 19 tab_same2 := tabOf_ok (by rintro ⟨a, b⟩ h; exact same2_spec a b h)
noncomputable abbrev ent_same2 : FuncId × List Nat × Tab := (19, [1, 1], tab_same2)
attribute [go_sem] tab_same2_eq

theorem lists2_spec (a : List (List Int)) (b : List (List Int)) (hpre : (sz a.length ∧ sz b.length) ∧ (∀ x ∈ a, sz x.length) ∧ ∀ x ∈ b, sz x.length) : Ret Tryd.prog 38 [lists a, lists b] (boolP (decide (a = b))) := by
  refine fn_of (T := [ent_same2]) (N := 27) (RO := []) (CH := []) (KS := [0, 1, 4, 5, 10, 14, 26]) (NS := []) (fun args w => Tryd.call38 args w) Tryd.func38 rfl rfl (by simp) mixed (by kernel_rfl) ⟨tab_same2_ok, trivial⟩ ?_
  simp only [go_sem, ↓reduceIte, Nat.reduceLT, Nat.reduceLeDiff, Nat.reduceEqDiff, Nat.reduceAdd, Nat.reduceSub, Nat.reduceDiv, Nat.reduceMod, Nat.reduceMul, Nat.reduceBEq, Nat.reduceBNe, reduceCtorEq, Int.reduceLT, Int.reduceLE, Int.reduceEq, Int.reduceNe, Int.reduceBEq, Int.reduceBNe, Int.reduceAdd, Int.reduceSub, Int.reduceNeg, Int.reduceToNat]
  obtain ⟨hp, hpa, hpb⟩ := hpre
  by_cases hl : a.length = b.length
  · have e0 : ((a.length : Int) != (b.length : Int)) = false := by simp [hl]
    simp only [go_sem, ↓reduceIte, Nat.reduceLT, Nat.reduceLeDiff, Nat.reduceEqDiff, Nat.reduceAdd, Nat.reduceSub, Nat.reduceDiv, Nat.reduceMod, Nat.reduceMul, Nat.reduceBEq, Nat.reduceBNe, reduceCtorEq, Int.reduceLT, Int.reduceLE, Int.reduceEq, Int.reduceNe, Int.reduceBEq, Int.reduceBNe, Int.reduceAdd, Int.reduceSub, Int.reduceNeg, Int.reduceToNat, e0]
    refine vfor [0,1,5] [] [] a.length (fun k => a.take k = b.take k) (fun k => ⟨[(0,.p (lists a)),(1,.p (lists b)),(5,.p (natP k))], []⟩) (by first | rfl | (simp only [go_sem, ↓reduceIte, Nat.reduceLT, Nat.reduceLeDiff, Nat.reduceEqDiff, Nat.reduceAdd, Nat.reduceSub, Nat.reduceDiv, Nat.reduceMod, Nat.reduceMul, Nat.reduceBEq, Nat.reduceBNe, reduceCtorEq, Int.reduceLT, Int.reduceLE, Int.reduceEq, Int.reduceNe, Int.reduceBEq, Int.reduceBNe, Int.reduceAdd, Int.reduceSub, Int.reduceNeg, Int.reduceToNat]; first | done | rfl)) (by simp) ?_
    intro k hk hI
    by_cases hlt : k < a.length
    · obtain ⟨x, hx⟩ := get_some hlt
      obtain ⟨y, hy⟩ := get_some (show k < b.length by omega)
      have hxa := hpa x (List.mem_of_getElem? hx)
      have hyb := hpb y (List.mem_of_getElem? hy)
      by_cases hxy : x = y
      · subst hxy
        have d1 : decide (x = x) = true := by simp
        simp only [go_sem, ↓reduceIte, Nat.reduceLT, Nat.reduceLeDiff, Nat.reduceEqDiff, Nat.reduceAdd, Nat.reduceSub, Nat.reduceDiv, Nat.reduceMod, Nat.reduceMul, Nat.reduceBEq, Nat.reduceBNe, reduceCtorEq, Int.reduceLT, Int.reduceLE, Int.reduceEq, Int.reduceNe, Int.reduceBEq, Int.reduceBNe, Int.reduceAdd, Int.reduceSub, Int.reduceNeg, Int.reduceToNat, hlt, lof_getD hx, lof_getD hy, d1, show k < b.length by omega]
        have hI' : a.take (k + 1) = b.take (k + 1) := by rw [take_succ_of hx, take_succ_of hy, hI]
        obtain ⟨hp1, hp2⟩ := hp
        (repeat' (first | assumption | (rw [InK_i64]; omega) | (rw [InK_u8]; omega) | (rw [InK_u64]; omega) | omega | rfl | apply And.intro))
      · have d1 : decide (x = y) = false := by simp [hxy]
        simp only [go_sem, ↓reduceIte, Nat.reduceLT, Nat.reduceLeDiff, Nat.reduceEqDiff, Nat.reduceAdd, Nat.reduceSub, Nat.reduceDiv, Nat.reduceMod, Nat.reduceMul, Nat.reduceBEq, Nat.reduceBNe, reduceCtorEq, Int.reduceLT, Int.reduceLE, Int.reduceEq, Int.reduceNe, Int.reduceBEq, Int.reduceBNe, Int.reduceAdd, Int.reduceSub, Int.reduceNeg, Int.reduceToNat, hlt, lof_getD hx, lof_getD hy, d1, show k < b.length by omega]
        refine ⟨⟨hxa, hyb⟩, ex_le_refl ?_⟩
        have : a ≠ b := by rintro rfl; rw [hx] at hy; simp at hy; exact hxy hy
        simp [this]
    · simp only [go_sem, ↓reduceIte, Nat.reduceLT, Nat.reduceLeDiff, Nat.reduceEqDiff, Nat.reduceAdd, Nat.reduceSub, Nat.reduceDiv, Nat.reduceMod, Nat.reduceMul, Nat.reduceBEq, Nat.reduceBNe, reduceCtorEq, Int.reduceLT, Int.reduceLE, Int.reduceEq, Int.reduceNe, Int.reduceBEq, Int.reduceBNe, Int.reduceAdd, Int.reduceSub, Int.reduceNeg, Int.reduceToNat, hlt]
      have e1 : a.take k = a := List.take_of_length_le (by omega)
      have e2 : b.take k = b := List.take_of_length_le (by omega)
      rw [e1, e2] at hI
      exact ex_le_refl (by simp [hI])
  · have e0 : ((a.length : Int) != (b.length : Int)) = true := by simp; omega
    simp only [go_sem, ↓reduceIte, Nat.reduceLT, Nat.reduceLeDiff, Nat.reduceEqDiff, Nat.reduceAdd, Nat.reduceSub, Nat.reduceDiv, Nat.reduceMod, Nat.reduceMul, Nat.reduceBEq, Nat.reduceBNe, reduceCtorEq, Int.reduceLT, Int.reduceLE, Int.reduceEq, Int.reduceNe, Int.reduceBEq, Int.reduceBNe, Int.reduceAdd, Int.reduceSub, Int.reduceNeg, Int.reduceToNat, e0]
    have : a ≠ b := by rintro rfl; exact hl rfl
    exact ex_le_refl (by simp [this])
@[simp] theorem lof_stI_inj {l l' : List R2.EI} : lof stI l = lof stI l' ↔ l = l' := lof_inj (by rintro ⟨a, b⟩ ⟨c, d⟩ h; simp at h; simp; omega)
@[simp] theorem lof_stN_inj {l l' : List R2.E} : lof stN l = lof stN l' ↔ l = l' := lof_inj (by rintro ⟨a, b⟩ ⟨c, d⟩ h; simp at h; simp; omega)
@[go_sem] theorem strI_snoc (l : List R2.EI) (a b : Int) : lof stI l ++ [.agg [.val (.int .i64 a), .val (.int .i64 b)]] = lof stI (l ++ [⟨a, b⟩]) := by simp [lof]
/-- a map that passes the check, with numbers that are not negative -/
theorem lof_nat {n : Int} {L : List R2.EI} (h : ∀ e ∈ L, 0 ≤ e.a ∧ e.a < e.b ∧ e.b < n) : lof stI L = lof stN (R2.natL L) := by
  unfold lof R2.natL
  rw [List.map_map]
  apply List.map_congr_left
  intro e he
  have := h e he
  show PV.agg [intP e.a, intP e.b] = PV.agg [intP (e.a.toNat : Int), intP (e.b.toNat : Int)]
  rw [Int.toNat_of_nonneg this.1, Int.toNat_of_nonneg (show 0 ≤ e.b by omega)]

theorem wrong2_spec (x : Int) (n : Int) (hpre : True) : Ret Tryd.prog 66 [intP x, intP n] (boolP (decide (x < 0) || decide (n ≤ x))) := by
  refine fn_of (T := []) (N := 12) (RO := []) (CH := []) (KS := [0, 1, 4]) (NS := []) (fun args w => Tryd.call66 args w) Tryd.func66 rfl rfl (by simp) mixed (by kernel_rfl) trivial ?_
  simp only [go_sem, ↓reduceIte, Nat.reduceLT, Nat.reduceLeDiff, Nat.reduceEqDiff, Nat.reduceAdd, Nat.reduceSub, Nat.reduceDiv, Nat.reduceMod, Nat.reduceMul, Nat.reduceBEq, Nat.reduceBNe, reduceCtorEq, Int.reduceLT, Int.reduceLE, Int.reduceEq, Int.reduceNe, Int.reduceBEq, Int.reduceBNe, Int.reduceAdd, Int.reduceSub, Int.reduceNeg, Int.reduceToNat]
  by_cases h1 : x < 0
  · simp only [go_sem, ↓reduceIte, Nat.reduceLT, Nat.reduceLeDiff, Nat.reduceEqDiff, Nat.reduceAdd, Nat.reduceSub, Nat.reduceDiv, Nat.reduceMod, Nat.reduceMul, Nat.reduceBEq, Nat.reduceBNe, reduceCtorEq, Int.reduceLT, Int.reduceLE, Int.reduceEq, Int.reduceNe, Int.reduceBEq, Int.reduceBNe, Int.reduceAdd, Int.reduceSub, Int.reduceNeg, Int.reduceToNat, h1]
    exact ex_le_refl (by simp [h1])
  · simp only [go_sem, ↓reduceIte, Nat.reduceLT, Nat.reduceLeDiff, Nat.reduceEqDiff, Nat.reduceAdd, Nat.reduceSub, Nat.reduceDiv, Nat.reduceMod, Nat.reduceMul, Nat.reduceBEq, Nat.reduceBNe, reduceCtorEq, Int.reduceLT, Int.reduceLE, Int.reduceEq, Int.reduceNe, Int.reduceBEq, Int.reduceBNe, Int.reduceAdd, Int.reduceSub, Int.reduceNeg, Int.reduceToNat, h1]
    exact ex_le_refl (by simp [h1])
noncomputable def tab_wrong2 : Tab := tabOf (fun p : (Int) × (Int) => match p with | (x, n) => [intP x, intP n]) (fun p : (Int) × (Int) => match p with | (x, n) => True) (fun p : (Int) × (Int) => match p with | (x, n) => boolP (decide (x < 0) || decide (n ≤ x)))
theorem tab_wrong2_eq (x : Int) (n : Int) : tab_wrong2 [intP x, intP n] = some (True, .p (boolP (decide (x < 0) || decide (n ≤ x)))) := tabOf_eq (enc := fun p : (Int) × (Int) => match p with | (x, n) => [intP x, intP n]) (pre := fun p : (Int) × (Int) => match p with | (x, n) => True) (out := fun p : (Int) × (Int) => match p with | (x, n) => boolP (decide (x < 0) || decide (n ≤ x))) (by rintro ⟨x, n⟩ ⟨x', n'⟩ h; simp at h; first | (simp [h]; done) | omega | (simp [h]; omega)) (x, n)
theorem tab_wrong2_ok : TabOK Tryd.prog 66 tab_wrong2 := tabOf_ok (by rintro ⟨x, n⟩ h; exact wrong2_spec x n h)
noncomputable abbrev ent_wrong2 : FuncId × List Nat × Tab := (66, [], tab_wrong2)
attribute [go_sem] tab_wrong2_eq

end Go.V

set_option linter.unusedVariables false
namespace Go.V
attribute [go_sem_proc ↓] reduceIte
attribute [go_sem_proc] Nat.reduceLT Nat.reduceLeDiff Nat.reduceEqDiff Nat.reduceAdd Nat.reduceSub Nat.reduceDiv Nat.reduceMod Nat.reduceMul Nat.reduceBEq Nat.reduceBNe reduceCtorEq Int.reduceLT Int.reduceLE Int.reduceEq Int.reduceNe Int.reduceBEq Int.reduceBNe Int.reduceAdd Int.reduceSub Int.reduceNeg Int.reduceToNat
end Go.V
