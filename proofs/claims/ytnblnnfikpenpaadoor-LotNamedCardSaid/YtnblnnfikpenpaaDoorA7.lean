/-
  Contracts of small functions of chapter 07. Conditions: none.
  The reductions of numerals and of ifs, put into the semantics' own set of simp rules, so that the long lists need not be written out.
-/
import Derived.Test.YtnblnnfikpenpaaDoorLotT
import Derived.Test.YtnblnnfikpenpaaDoorVObj
import Derived.Test.YtnblnnfikpenpaaDoorP7c
set_option linter.unusedVariables false
set_option linter.unusedSimpArgs false
set_option linter.deprecated false
namespace Go.V
open Go.Proofs
set_option maxRecDepth 10000
set_option maxHeartbeats 1000000

abbrev errP (n : Int) : PV := .val (.int .i64 n)
abbrev boolP (b : Bool) : PV := .val (.bool b)
abbrev lists (l : List (List Int)) : PV := .list .any 1 (lof ints l)
/-- the sizes at which the contracts are proved -/
abbrev sz (n : Nat) : Prop := n ≤ 16777216
theorem lof_inj {α : Type} {f : α → PV} (hf : ∀ a b, f a = f b → a = b) {l l' : List α} : lof f l = lof f l' ↔ l = l' := by
  constructor
  · intro h
    induction l generalizing l' with
    | nil => cases l' <;> simp_all [lof]
    | cons x l ih => cases l' with
      | nil => simp [lof] at h
      | cons y l' => simp only [lof, List.map_cons, List.cons.injEq] at h; rw [hf _ _ h.1, ih h.2]
  · intro h; rw [h]
@[simp] theorem lof_intP_inj {l l' : List Int} : lof intP l = lof intP l' ↔ l = l' := lof_inj (by intro a b h; simpa using h)
@[simp] theorem lof_ints_inj {l l' : List (List Int)} : lof ints l = lof ints l' ↔ l = l' := lof_inj (by intro a b h; simpa using h)
theorem get_some {α : Type} {l : List α} {k : Nat} (h : k < l.length) : ∃ x, l[k]? = some x := ⟨l[k], by simp [h]⟩
theorem take_succ_of {α : Type} {l : List α} {k : Nat} {x : α} (hx : l[k]? = some x) : l.take (k + 1) = l.take k ++ [x] := by
  rw [List.take_add_one, hx]; rfl

/-- a number is from lo to hi -/
def inB (n lo hi : Int) : Bool := decide (lo ≤ n) && decide (n ≤ hi)

theorem within_spec (n : Int) (lo : Int) (hi : Int) (hpre : True) : Ret Tryd.prog 64 [intP n, intP lo, intP hi] (boolP (inB n lo hi)) := by
  refine fn_of (T := []) (N := 15) (RO := []) (CH := []) (KS := [0, 1, 2, 6]) (NS := []) (fun args w => Tryd.call64 args w) Tryd.func64 rfl rfl (by simp) mixed (by kernel_rfl) trivial ?_
  simp only [go_sem, ↓reduceIte, Nat.reduceLT, Nat.reduceLeDiff, Nat.reduceEqDiff, Nat.reduceAdd, Nat.reduceSub, Nat.reduceDiv, Nat.reduceMod, Nat.reduceMul, Nat.reduceBEq, Nat.reduceBNe, reduceCtorEq, Int.reduceLT, Int.reduceLE, Int.reduceEq, Int.reduceNe, Int.reduceBEq, Int.reduceBNe, Int.reduceAdd, Int.reduceSub, Int.reduceNeg, Int.reduceToNat]
  by_cases h1 : lo ≤ n
  · simp only [go_sem, ↓reduceIte, Nat.reduceLT, Nat.reduceLeDiff, Nat.reduceEqDiff, Nat.reduceAdd, Nat.reduceSub, Nat.reduceDiv, Nat.reduceMod, Nat.reduceMul, Nat.reduceBEq, Nat.reduceBNe, reduceCtorEq, Int.reduceLT, Int.reduceLE, Int.reduceEq, Int.reduceNe, Int.reduceBEq, Int.reduceBNe, Int.reduceAdd, Int.reduceSub, Int.reduceNeg, Int.reduceToNat, h1]
    exact ex_le_refl (by simp [inB, h1])
  · simp only [go_sem, ↓reduceIte, Nat.reduceLT, Nat.reduceLeDiff, Nat.reduceEqDiff, Nat.reduceAdd, Nat.reduceSub, Nat.reduceDiv, Nat.reduceMod, Nat.reduceMul, Nat.reduceBEq, Nat.reduceBNe, reduceCtorEq, Int.reduceLT, Int.reduceLE, Int.reduceEq, Int.reduceNe, Int.reduceBEq, Int.reduceBNe, Int.reduceAdd, Int.reduceSub, Int.reduceNeg, Int.reduceToNat, h1]
    exact ex_le_refl (by simp [inB, h1])
noncomputable def tab_within : Tab := tabOf (fun p : (Int) × (Int) × (Int) => match p with | (n, lo, hi) => [intP n, intP lo, intP hi]) (fun p : (Int) × (Int) × (Int) => match p with | (n, lo, hi) => True) (fun p : (Int) × (Int) × (Int) => match p with | (n, lo, hi) => boolP (inB n lo hi))
theorem tab_within_eq (n : Int) (lo : Int) (hi : Int) : tab_within [intP n, intP lo, intP hi] = some (True, .p (boolP (inB n lo hi))) := tabOf_eq (enc := fun p : (Int) × (Int) × (Int) => match p with | (n, lo, hi) => [intP n, intP lo, intP hi]) (pre := fun p : (Int) × (Int) × (Int) => match p with | (n, lo, hi) => True) (out := fun p : (Int) × (Int) × (Int) => match p with | (n, lo, hi) => boolP (inB n lo hi)) (by rintro ⟨n, lo, hi⟩ ⟨n', lo', hi'⟩ h; simp at h; first | (simp [h]; done) | omega | (simp [h]; omega)) (n, lo, hi)
theorem tab_within_ok : TabOK Tryd.prog 64 tab_within := tabOf_ok (by rintro ⟨n, lo, hi⟩ h; exact within_spec n lo hi h)
noncomputable abbrev ent_within : FuncId × List Nat × Tab := (64, [], tab_within)
attribute [go_sem] tab_within_eq

theorem list7_spec (l : List Int) (hpre : True) : Ret Tryd.prog 45 [ints l] (ints l) := by
  refine fn_of (T := []) (N := 4) (RO := []) (CH := []) (KS := [0, 2]) (NS := []) (fun args w => Tryd.call45 args w) Tryd.func45 rfl rfl (by simp) mixed (by kernel_rfl) trivial ?_
  simp only [go_sem, ↓reduceIte, Nat.reduceLT, Nat.reduceLeDiff, Nat.reduceEqDiff, Nat.reduceAdd, Nat.reduceSub, Nat.reduceDiv, Nat.reduceMod, Nat.reduceMul, Nat.reduceBEq, Nat.reduceBNe, reduceCtorEq, Int.reduceLT, Int.reduceLE, Int.reduceEq, Int.reduceNe, Int.reduceBEq, Int.reduceBNe, Int.reduceAdd, Int.reduceSub, Int.reduceNeg, Int.reduceToNat]
  exact ex_le_refl rfl
noncomputable def tab_list7 : Tab := tabOf (fun p : (List Int) => match p with | l => [ints l]) (fun p : (List Int) => match p with | l => True) (fun p : (List Int) => match p with | l => ints l)
theorem tab_list7_eq (l : List Int) : tab_list7 [ints l] = some (True, .p (ints l)) := tabOf_eq (enc := fun p : (List Int) => match p with | l => [ints l]) (pre := fun p : (List Int) => match p with | l => True) (out := fun p : (List Int) => match p with | l => ints l) (by rintro l l' h; simp at h; first | (simp [h]; done) | omega | (simp [h]; omega)) (l)
theorem tab_list7_ok : TabOK Tryd.prog 45 tab_list7 := tabOf_ok (by rintro l h; exact list7_spec l h)
noncomputable abbrev ent_list7 : FuncId × List Nat × Tab := (45, [1], tab_list7)
attribute [go_sem] tab_list7_eq

theorem same7_spec (a : List Int) (b : List Int) (hpre : sz a.length ∧ sz b.length) : Ret Tryd.prog 21 [ints a, ints b] (boolP (decide (a = b))) := by
  refine fn_of (T := []) (N := 26) (RO := []) (CH := []) (KS := [0, 1, 4, 5, 10, 14, 25]) (NS := []) (fun args w => Tryd.call21 args w) Tryd.func21 rfl rfl (by simp) mixed (by kernel_rfl) trivial ?_
  simp only [go_sem, ↓reduceIte, Nat.reduceLT, Nat.reduceLeDiff, Nat.reduceEqDiff, Nat.reduceAdd, Nat.reduceSub, Nat.reduceDiv, Nat.reduceMod, Nat.reduceMul, Nat.reduceBEq, Nat.reduceBNe, reduceCtorEq, Int.reduceLT, Int.reduceLE, Int.reduceEq, Int.reduceNe, Int.reduceBEq, Int.reduceBNe, Int.reduceAdd, Int.reduceSub, Int.reduceNeg, Int.reduceToNat]
  by_cases hl : a.length = b.length
  · have e0 : ((a.length : Int) != (b.length : Int)) = false := by simp [hl]
    simp only [go_sem, ↓reduceIte, Nat.reduceLT, Nat.reduceLeDiff, Nat.reduceEqDiff, Nat.reduceAdd, Nat.reduceSub, Nat.reduceDiv, Nat.reduceMod, Nat.reduceMul, Nat.reduceBEq, Nat.reduceBNe, reduceCtorEq, Int.reduceLT, Int.reduceLE, Int.reduceEq, Int.reduceNe, Int.reduceBEq, Int.reduceBNe, Int.reduceAdd, Int.reduceSub, Int.reduceNeg, Int.reduceToNat, e0]
    refine vfor [0,1,5] [] [] a.length (fun k => a.take k = b.take k) (fun k => ⟨[(0,.p (ints a)),(1,.p (ints b)),(5,.p (natP k))], []⟩) (by first | rfl | (simp only [go_sem, ↓reduceIte, Nat.reduceLT, Nat.reduceLeDiff, Nat.reduceEqDiff, Nat.reduceAdd, Nat.reduceSub, Nat.reduceDiv, Nat.reduceMod, Nat.reduceMul, Nat.reduceBEq, Nat.reduceBNe, reduceCtorEq, Int.reduceLT, Int.reduceLE, Int.reduceEq, Int.reduceNe, Int.reduceBEq, Int.reduceBNe, Int.reduceAdd, Int.reduceSub, Int.reduceNeg, Int.reduceToNat]; first | done | rfl)) (by simp) ?_
    intro k hk hI
    by_cases hlt : k < a.length
    · obtain ⟨x, hx⟩ := get_some hlt
      obtain ⟨y, hy⟩ := get_some (show k < b.length by omega)
      by_cases hxy : x = y
      · subst hxy
        simp only [go_sem, ↓reduceIte, Nat.reduceLT, Nat.reduceLeDiff, Nat.reduceEqDiff, Nat.reduceAdd, Nat.reduceSub, Nat.reduceDiv, Nat.reduceMod, Nat.reduceMul, Nat.reduceBEq, Nat.reduceBNe, reduceCtorEq, Int.reduceLT, Int.reduceLE, Int.reduceEq, Int.reduceNe, Int.reduceBEq, Int.reduceBNe, Int.reduceAdd, Int.reduceSub, Int.reduceNeg, Int.reduceToNat, hlt, lof_getD hx, lof_getD hy, bne_self_eq_false, show k < b.length by omega]
        have hI' : a.take (k + 1) = b.take (k + 1) := by rw [take_succ_of hx, take_succ_of hy, hI]
        obtain ⟨hp1, hp2⟩ := hpre
        (repeat' (first | assumption | (rw [InK_i64]; omega) | (rw [InK_u8]; omega) | (rw [InK_u64]; omega) | omega | rfl | apply And.intro))
      · simp only [go_sem, ↓reduceIte, Nat.reduceLT, Nat.reduceLeDiff, Nat.reduceEqDiff, Nat.reduceAdd, Nat.reduceSub, Nat.reduceDiv, Nat.reduceMod, Nat.reduceMul, Nat.reduceBEq, Nat.reduceBNe, reduceCtorEq, Int.reduceLT, Int.reduceLE, Int.reduceEq, Int.reduceNe, Int.reduceBEq, Int.reduceBNe, Int.reduceAdd, Int.reduceSub, Int.reduceNeg, Int.reduceToNat, hlt, lof_getD hx, lof_getD hy, show (x != y) = true by simp [hxy], show k < b.length by omega]
        refine ex_le_refl ?_
        have : a ≠ b := by rintro rfl; rw [hx] at hy; simp at hy; exact hxy hy
        simp [this]
    · simp only [go_sem, ↓reduceIte, Nat.reduceLT, Nat.reduceLeDiff, Nat.reduceEqDiff, Nat.reduceAdd, Nat.reduceSub, Nat.reduceDiv, Nat.reduceMod, Nat.reduceMul, Nat.reduceBEq, Nat.reduceBNe, reduceCtorEq, Int.reduceLT, Int.reduceLE, Int.reduceEq, Int.reduceNe, Int.reduceBEq, Int.reduceBNe, Int.reduceAdd, Int.reduceSub, Int.reduceNeg, Int.reduceToNat, hlt]
      have e1 : a.take k = a := List.take_of_length_le (by omega)
      have e2 : b.take k = b := List.take_of_length_le (by omega)
      rw [e1, e2] at hI
      exact ex_le_refl (by simp [hI])
  · have e0 : ((a.length : Int) != (b.length : Int)) = true := by simp; omega
    simp only [go_sem, ↓reduceIte, Nat.reduceLT, Nat.reduceLeDiff, Nat.reduceEqDiff, Nat.reduceAdd, Nat.reduceSub, Nat.reduceDiv, Nat.reduceMod, Nat.reduceMul, Nat.reduceBEq, Nat.reduceBNe, reduceCtorEq, Int.reduceLT, Int.reduceLE, Int.reduceEq, Int.reduceNe, Int.reduceBEq, Int.reduceBNe, Int.reduceAdd, Int.reduceSub, Int.reduceNeg, Int.reduceToNat, e0]
    have : a ≠ b := by rintro rfl; exact hl rfl
    exact ex_le_refl (by simp [this])
noncomputable def tab_same7 : Tab := tabOf (fun p : (List Int) × (List Int) => match p with | (a, b) => [ints a, ints b]) (fun p : (List Int) × (List Int) => match p with | (a, b) => sz a.length ∧ sz b.length) (fun p : (List Int) × (List Int) => match p with | (a, b) => boolP (decide (a = b)))
theorem tab_same7_eq (a : List Int) (b : List Int) : tab_same7 [ints a, ints b] = some (sz a.length ∧ sz b.length, .p (boolP (decide (a = b)))) := tabOf_eq (enc := fun p : (List Int) × (List Int) => match p with | (a, b) => [ints a, ints b]) (pre := fun p : (List Int) × (List Int) => match p with | (a, b) => sz a.length ∧ sz b.length) (out := fun p : (List Int) × (List Int) => match p with | (a, b) => boolP (decide (a = b))) (by rintro ⟨a, b⟩ ⟨a', b'⟩ h; simp at h; first | (simp [h]; done) | omega | (simp [h]; omega)) (a, b)
theorem tab_same7_ok : TabOK Tryd.prog 21 tab_same7 := tabOf_ok (by rintro ⟨a, b⟩ h; exact same7_spec a b h)
noncomputable abbrev ent_same7 : FuncId × List Nat × Tab := (21, [1, 1], tab_same7)
attribute [go_sem] tab_same7_eq

theorem lists7_spec (a : List (List Int)) (b : List (List Int)) (hpre : (sz a.length ∧ sz b.length) ∧ (∀ x ∈ a, sz x.length) ∧ ∀ x ∈ b, sz x.length) : Ret Tryd.prog 28 [lists a, lists b] (boolP (decide (a = b))) := by
  refine fn_of (T := [ent_same7]) (N := 27) (RO := []) (CH := []) (KS := [0, 1, 4, 5, 10, 14, 26]) (NS := []) (fun args w => Tryd.call28 args w) Tryd.func28 rfl rfl (by simp) mixed (by kernel_rfl) ⟨tab_same7_ok, trivial⟩ ?_
  simp only [go_sem, ↓reduceIte, Nat.reduceLT, Nat.reduceLeDiff, Nat.reduceEqDiff, Nat.reduceAdd, Nat.reduceSub, Nat.reduceDiv, Nat.reduceMod, Nat.reduceMul, Nat.reduceBEq, Nat.reduceBNe, reduceCtorEq, Int.reduceLT, Int.reduceLE, Int.reduceEq, Int.reduceNe, Int.reduceBEq, Int.reduceBNe, Int.reduceAdd, Int.reduceSub, Int.reduceNeg, Int.reduceToNat]
  obtain ⟨hp, hpa, hpb⟩ := hpre
  by_cases hl : a.length = b.length
  · have e0 : ((a.length : Int) != (b.length : Int)) = false := by simp [hl]
    simp only [go_sem, ↓reduceIte, Nat.reduceLT, Nat.reduceLeDiff, Nat.reduceEqDiff, Nat.reduceAdd, Nat.reduceSub, Nat.reduceDiv, Nat.reduceMod, Nat.reduceMul, Nat.reduceBEq, Nat.reduceBNe, reduceCtorEq, Int.reduceLT, Int.reduceLE, Int.reduceEq, Int.reduceNe, Int.reduceBEq, Int.reduceBNe, Int.reduceAdd, Int.reduceSub, Int.reduceNeg, Int.reduceToNat, e0]
    refine vfor [0,1,5] [] [] a.length (fun k => a.take k = b.take k) (fun k => ⟨[(0,.p (lists a)),(1,.p (lists b)),(5,.p (natP k))], []⟩) (by first | rfl | (simp only [go_sem, ↓reduceIte, Nat.reduceLT, Nat.reduceLeDiff, Nat.reduceEqDiff, Nat.reduceAdd, Nat.reduceSub, Nat.reduceDiv, Nat.reduceMod, Nat.reduceMul, Nat.reduceBEq, Nat.reduceBNe, reduceCtorEq, Int.reduceLT, Int.reduceLE, Int.reduceEq, Int.reduceNe, Int.reduceBEq, Int.reduceBNe, Int.reduceAdd, Int.reduceSub, Int.reduceNeg, Int.reduceToNat]; first | done | rfl)) (by simp) ?_
    intro k hk hI
    by_cases hlt : k < a.length
    · obtain ⟨x, hx⟩ := get_some hlt
      obtain ⟨y, hy⟩ := get_some (show k < b.length by omega)
      have hxa := hpa x (List.mem_of_getElem? hx)
      have hyb := hpb y (List.mem_of_getElem? hy)
      by_cases hxy : x = y
      · subst hxy
        have d1 : decide (x = x) = true := by simp
        simp only [go_sem, ↓reduceIte, Nat.reduceLT, Nat.reduceLeDiff, Nat.reduceEqDiff, Nat.reduceAdd, Nat.reduceSub, Nat.reduceDiv, Nat.reduceMod, Nat.reduceMul, Nat.reduceBEq, Nat.reduceBNe, reduceCtorEq, Int.reduceLT, Int.reduceLE, Int.reduceEq, Int.reduceNe, Int.reduceBEq, Int.reduceBNe, Int.reduceAdd, Int.reduceSub, Int.reduceNeg, Int.reduceToNat, hlt, lof_getD hx, lof_getD hy, d1, show k < b.length by omega]
        have hI' : a.take (k + 1) = b.take (k + 1) := by rw [take_succ_of hx, take_succ_of hy, hI]
        obtain ⟨hp1, hp2⟩ := hp
        (repeat' (first | assumption | (rw [InK_i64]; omega) | (rw [InK_u8]; omega) | (rw [InK_u64]; omega) | omega | rfl | apply And.intro))
      · have d1 : decide (x = y) = false := by simp [hxy]
        simp only [go_sem, ↓reduceIte, Nat.reduceLT, Nat.reduceLeDiff, Nat.reduceEqDiff, Nat.reduceAdd, Nat.reduceSub, Nat.reduceDiv, Nat.reduceMod, Nat.reduceMul, Nat.reduceBEq, Nat.reduceBNe, reduceCtorEq, Int.reduceLT, Int.reduceLE, Int.reduceEq, Int.reduceNe, Int.reduceBEq, Int.reduceBNe, Int.reduceAdd, Int.reduceSub, Int.reduceNeg, Int.reduceToNat, hlt, lof_getD hx, lof_getD hy, d1, show k < b.length by omega]
        refine ⟨⟨hxa, hyb⟩, ex_le_refl ?_⟩
        have : a ≠ b := by rintro rfl; rw [hx] at hy; simp at hy; exact hxy hy
        simp [this]
    · simp only [go_sem, ↓reduceIte, Nat.reduceLT, Nat.reduceLeDiff, Nat.reduceEqDiff, Nat.reduceAdd, Nat.reduceSub, Nat.reduceDiv, Nat.reduceMod, Nat.reduceMul, Nat.reduceBEq, Nat.reduceBNe, reduceCtorEq, Int.reduceLT, Int.reduceLE, Int.reduceEq, Int.reduceNe, Int.reduceBEq, Int.reduceBNe, Int.reduceAdd, Int.reduceSub, Int.reduceNeg, Int.reduceToNat, hlt]
      have e1 : a.take k = a := List.take_of_length_le (by omega)
      have e2 : b.take k = b := List.take_of_length_le (by omega)
      rw [e1, e2] at hI
      exact ex_le_refl (by simp [hI])
  · have e0 : ((a.length : Int) != (b.length : Int)) = true := by simp; omega
    simp only [go_sem, ↓reduceIte, Nat.reduceLT, Nat.reduceLeDiff, Nat.reduceEqDiff, Nat.reduceAdd, Nat.reduceSub, Nat.reduceDiv, Nat.reduceMod, Nat.reduceMul, Nat.reduceBEq, Nat.reduceBNe, reduceCtorEq, Int.reduceLT, Int.reduceLE, Int.reduceEq, Int.reduceNe, Int.reduceBEq, Int.reduceBNe, Int.reduceAdd, Int.reduceSub, Int.reduceNeg, Int.reduceToNat, e0]
    have : a ≠ b := by rintro rfl; exact hl rfl
    exact ex_le_refl (by simp [this])
/-- the error of a list of loads, and of a stone and loads -/
def chkL (l : List Int) : Int := if 12 < l.length then 3 else if l.all (fun x => inB x 0 1000) then 0 else 1
def checkS (n : Int) (l : List Int) : Int := if inB n 1 6 = true then chkL l else 1
theorem chkL_zero {l : List Int} : chkL l = 0 ↔ l.length ≤ 12 ∧ ∀ x ∈ l, 0 ≤ x ∧ x ≤ 1000 := by
  unfold chkL
  by_cases h : 12 < l.length
  · rw [if_pos h]; exact ⟨fun h' => (by cases h'), fun h' => by omega⟩
  · rw [if_neg h]
    by_cases h3 : l.all (fun x => inB x 0 1000) = true
    · rw [if_pos h3]
      refine ⟨fun _ => ⟨by omega, fun x hx => ?_⟩, fun _ => rfl⟩
      have := List.all_eq_true.1 h3 x hx
      simpa [inB] using this
    · rw [if_neg h3]
      constructor
      · intro h; cases h
      · intro h
        exfalso; apply h3
        rw [List.all_eq_true]
        intro x hx
        have := h.2 x hx
        simp [inB]; omega
theorem checkS_zero {n : Int} {l : List Int} : checkS n l = 0 ↔ (1 ≤ n ∧ n ≤ 6) ∧ l.length ≤ 12 ∧ ∀ x ∈ l, 0 ≤ x ∧ x ≤ 1000 := by
  unfold checkS
  by_cases h : inB n 1 6 = true
  · rw [if_pos h, chkL_zero]
    have : 1 ≤ n ∧ n ≤ 6 := by simpa [inB] using h
    exact ⟨fun h' => ⟨this, h'⟩, fun h' => h'.2⟩
  · rw [if_neg h]
    refine ⟨fun h' => (by cases h'), fun h' => absurd ?_ h⟩
    simp [inB]; exact h'.1

end Go.V

set_option linter.unusedVariables false
namespace Go.V
attribute [go_sem_proc ↓] reduceIte
attribute [go_sem_proc] Nat.reduceLT Nat.reduceLeDiff Nat.reduceEqDiff Nat.reduceAdd Nat.reduceSub Nat.reduceDiv Nat.reduceMod Nat.reduceMul Nat.reduceBEq Nat.reduceBNe reduceCtorEq Int.reduceLT Int.reduceLE Int.reduceEq Int.reduceNe Int.reduceBEq Int.reduceBNe Int.reduceAdd Int.reduceSub Int.reduceNeg Int.reduceToNat
end Go.V
