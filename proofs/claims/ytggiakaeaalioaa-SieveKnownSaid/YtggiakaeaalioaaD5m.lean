/-
  Contracts of chapter 05: slices.BinarySearch of numbers that rise. Conditions: none.
-/
import Derived.Test.YtggiakaeaalioaaC5e
import Derived.Test.YtggiakaeaalioaaP5a
set_option linter.unusedVariables false
set_option linter.unusedSimpArgs false
set_option linter.deprecated false
namespace Go.V
open Go.Proofs
set_option maxRecDepth 10000
set_option maxHeartbeats 2000000

theorem nanS_spec (x : Int) (hpre : True) : Ret Try.prog 93 [intP x] (boolP false) := by
  refine fn_of (T := []) (N := 6) (RO := []) (CH := []) (KS := [0, 2]) (NS := []) (fun args w => Try.call93 args w) Try.func93 rfl rfl (by simp) mixed (by kernel_rfl) trivial ?_
  simp only [go_sem, ↓reduceIte, Nat.reduceLT, Nat.reduceLeDiff, Nat.reduceEqDiff, Nat.reduceAdd, Nat.reduceSub, Nat.reduceDiv, Nat.reduceMod, Nat.reduceMul, Nat.reduceBEq, Nat.reduceBNe, reduceCtorEq, Int.reduceLT, Int.reduceLE, Int.reduceEq, Int.reduceNe, Int.reduceBEq, Int.reduceBNe, Int.reduceAdd, Int.reduceSub, Int.reduceNeg, Int.reduceToNat]
  exact ex_le_refl (by simp)
noncomputable def tab_nanS : Tab := tabOf (fun p : (Int) => match p with | x => [intP x]) (fun p : (Int) => match p with | x => True) (fun p : (Int) => match p with | x => boolP false)
theorem tab_nanS_eq (x : Int) : tab_nanS [intP x] = some (True, .p (boolP false)) := tabOf_eq (enc := fun p : (Int) => match p with | x => [intP x]) (pre := fun p : (Int) => match p with | x => True) (out := fun p : (Int) => match p with | x => boolP false) (by rintro x x' h; simp at h; first | (simp [h]; done) | omega | (simp [h]; omega)) (x)
theorem tab_nanS_ok : TabOK Try.prog 93 tab_nanS := tabOf_ok (by rintro x h; exact nanS_spec x h)
noncomputable abbrev ent_nanS : FuncId × List Nat × Tab := (93, [], tab_nanS)
attribute [go_sem] tab_nanS_eq
theorem nanC_spec (x : Int) (hpre : True) : Ret Try.prog 114 [intP x] (boolP false) := by
  refine fn_of (T := []) (N := 6) (RO := []) (CH := []) (KS := [0, 2]) (NS := []) (fun args w => Try.call114 args w) Try.func114 rfl rfl (by simp) mixed (by kernel_rfl) trivial ?_
  simp only [go_sem, ↓reduceIte, Nat.reduceLT, Nat.reduceLeDiff, Nat.reduceEqDiff, Nat.reduceAdd, Nat.reduceSub, Nat.reduceDiv, Nat.reduceMod, Nat.reduceMul, Nat.reduceBEq, Nat.reduceBNe, reduceCtorEq, Int.reduceLT, Int.reduceLE, Int.reduceEq, Int.reduceNe, Int.reduceBEq, Int.reduceBNe, Int.reduceAdd, Int.reduceSub, Int.reduceNeg, Int.reduceToNat]
  exact ex_le_refl (by simp)
noncomputable def tab_nanC : Tab := tabOf (fun p : (Int) => match p with | x => [intP x]) (fun p : (Int) => match p with | x => True) (fun p : (Int) => match p with | x => boolP false)
theorem tab_nanC_eq (x : Int) : tab_nanC [intP x] = some (True, .p (boolP false)) := tabOf_eq (enc := fun p : (Int) => match p with | x => [intP x]) (pre := fun p : (Int) => match p with | x => True) (out := fun p : (Int) => match p with | x => boolP false) (by rintro x x' h; simp at h; first | (simp [h]; done) | omega | (simp [h]; omega)) (x)
theorem tab_nanC_ok : TabOK Try.prog 114 tab_nanC := tabOf_ok (by rintro x h; exact nanC_spec x h)
noncomputable abbrev ent_nanC : FuncId × List Nat × Tab := (114, [], tab_nanC)
attribute [go_sem] tab_nanC_eq
theorem lessC_spec (x : Int) (y : Int) (hpre : True) : Ret Try.prog 92 [intP x, intP y] (boolP (decide (x < y))) := by
  refine fn_of (T := [ent_nanC]) (N := 17) (RO := []) (CH := []) (KS := [0, 1, 4]) (NS := []) (fun args w => Try.call92 args w) Try.func92 rfl rfl (by simp) mixed (by kernel_rfl) ⟨tab_nanC_ok, trivial⟩ ?_
  simp only [go_sem, ↓reduceIte, Nat.reduceLT, Nat.reduceLeDiff, Nat.reduceEqDiff, Nat.reduceAdd, Nat.reduceSub, Nat.reduceDiv, Nat.reduceMod, Nat.reduceMul, Nat.reduceBEq, Nat.reduceBNe, reduceCtorEq, Int.reduceLT, Int.reduceLE, Int.reduceEq, Int.reduceNe, Int.reduceBEq, Int.reduceBNe, Int.reduceAdd, Int.reduceSub, Int.reduceNeg, Int.reduceToNat]
  by_cases h : x < y
  · simp only [go_sem, ↓reduceIte, Nat.reduceLT, Nat.reduceLeDiff, Nat.reduceEqDiff, Nat.reduceAdd, Nat.reduceSub, Nat.reduceDiv, Nat.reduceMod, Nat.reduceMul, Nat.reduceBEq, Nat.reduceBNe, reduceCtorEq, Int.reduceLT, Int.reduceLE, Int.reduceEq, Int.reduceNe, Int.reduceBEq, Int.reduceBNe, Int.reduceAdd, Int.reduceSub, Int.reduceNeg, Int.reduceToNat, h]
    exact ex_le_refl rfl
  · simp only [go_sem, ↓reduceIte, Nat.reduceLT, Nat.reduceLeDiff, Nat.reduceEqDiff, Nat.reduceAdd, Nat.reduceSub, Nat.reduceDiv, Nat.reduceMod, Nat.reduceMul, Nat.reduceBEq, Nat.reduceBNe, reduceCtorEq, Int.reduceLT, Int.reduceLE, Int.reduceEq, Int.reduceNe, Int.reduceBEq, Int.reduceBNe, Int.reduceAdd, Int.reduceSub, Int.reduceNeg, Int.reduceToNat, h]
    exact ex_le_refl rfl
noncomputable def tab_lessC : Tab := tabOf (fun p : (Int) × (Int) => match p with | (x, y) => [intP x, intP y]) (fun p : (Int) × (Int) => match p with | (x, y) => True) (fun p : (Int) × (Int) => match p with | (x, y) => boolP (decide (x < y)))
theorem tab_lessC_eq (x : Int) (y : Int) : tab_lessC [intP x, intP y] = some (True, .p (boolP (decide (x < y)))) := tabOf_eq (enc := fun p : (Int) × (Int) => match p with | (x, y) => [intP x, intP y]) (pre := fun p : (Int) × (Int) => match p with | (x, y) => True) (out := fun p : (Int) × (Int) => match p with | (x, y) => boolP (decide (x < y))) (by rintro ⟨x, y⟩ ⟨x', y'⟩ h; simp at h; first | (simp [h]; done) | omega | (simp [h]; omega)) (x, y)
theorem tab_lessC_ok : TabOK Try.prog 92 tab_lessC := tabOf_ok (by rintro ⟨x, y⟩ h; exact lessC_spec x y h)
noncomputable abbrev ent_lessC : FuncId × List Nat × Tab := (92, [], tab_lessC)
attribute [go_sem] tab_lessC_eq

/-- how many are less -/
def lessN (l : List Int) (x : Int) : Nat := (l.takeWhile (· < x)).length
theorem lessN_eq {l : List Int} {x : Int} {i : Nat} (hi : i ≤ l.length) (h1 : ∀ k y, k < i → l[k]? = some y → y < x) (h2 : ∀ y, l[i]? = some y → x ≤ y) : lessN l x = i := by
  unfold lessN
  induction l generalizing i with
  | nil => simp at hi; simp [hi]
  | cons z l ih =>
    cases i with
    | zero =>
      have := h2 z rfl
      rw [List.takeWhile_cons, if_neg (by simp; omega)]; rfl
    | succ i =>
      have := h1 0 z (by omega) rfl
      rw [List.takeWhile_cons, if_pos (by simpa using this), List.length_cons, ih (by simpa using hi) (fun k y hk hy => h1 (k + 1) y (by omega) (by simpa using hy)) (fun y hy => h2 y (by simpa using hy))]
def foundB (l : List Int) (x : Int) : Bool := decide (l[lessN l x]? = some x)

theorem bsearch_spec (l : List Int) (x : Int) (hpre : l.length ≤ 65536 ∧ R5.Rises l) : Ret Try.prog 68 [ints l, intP x] (.tuple [natP (lessN l x), boolP (foundB l x)]) := by
  refine fn_of (T := [ent_lessC, ent_nanS]) (N := 54) (RO := []) (CH := []) (KS := [0, 1, 4, 5, 6, 7, 8, 9, 15, 27]) (NS := []) (fun args w => Try.call68 args w) Try.func68 rfl rfl (by simp) mixed (by kernel_rfl) ⟨tab_lessC_ok, tab_nanS_ok, trivial⟩ ?_
  simp only [go_sem, ↓reduceIte, Nat.reduceLT, Nat.reduceLeDiff, Nat.reduceEqDiff, Nat.reduceAdd, Nat.reduceSub, Nat.reduceDiv, Nat.reduceMod, Nat.reduceMul, Nat.reduceBEq, Nat.reduceBNe, reduceCtorEq, Int.reduceLT, Int.reduceLE, Int.reduceEq, Int.reduceNe, Int.reduceBEq, Int.reduceBNe, Int.reduceAdd, Int.reduceSub, Int.reduceNeg, Int.reduceToNat]
  obtain ⟨hlen, hris⟩ := hpre
  refine vwhile [0,1,6,7,8] [] [] (fun d : Nat × Nat => d.1 ≤ d.2 ∧ d.2 ≤ l.length ∧ (∀ k y, k < d.1 → l[k]? = some y → y < x) ∧ ∀ k y, d.2 ≤ k → l[k]? = some y → x ≤ y) (fun d => d.2 - d.1) (fun d => ⟨[(0,.p (ints l)),(1,.p (intP x)),(6,.p (natP l.length)),(7,.p (natP d.1)),(8,.p (natP d.2))], []⟩) (0, l.length) (by first | rfl | (simp only [go_sem, ↓reduceIte, Nat.reduceLT, Nat.reduceLeDiff, Nat.reduceEqDiff, Nat.reduceAdd, Nat.reduceSub, Nat.reduceDiv, Nat.reduceMod, Nat.reduceMul, Nat.reduceBEq, Nat.reduceBNe, reduceCtorEq, Int.reduceLT, Int.reduceLE, Int.reduceEq, Int.reduceNe, Int.reduceBEq, Int.reduceBNe, Int.reduceAdd, Int.reduceSub, Int.reduceNeg, Int.reduceToNat]; first | done | rfl)) ⟨Nat.zero_le _, Nat.le_refl _, fun k y h => absurd h (Nat.not_lt_zero _), fun k y h hy => by have := lt_get hy; omega⟩ ?_
  rintro ⟨i, j⟩ ⟨h1, h2, h3, h4⟩
  simp only at h1 h2 h3 h4
  have hris' : ∀ (a b : Nat) u v, a ≤ b → l[a]? = some u → l[b]? = some v → u ≤ v := fun a b u v hab hu hv => by
    by_cases e : a = b
    · subst e; rw [hu] at hv; simp only [Option.some.injEq] at hv; omega
    · obtain ⟨ha, rfl⟩ := List.getElem?_eq_some_iff.1 hu
      obtain ⟨hb, rfl⟩ := List.getElem?_eq_some_iff.1 hv
      exact List.pairwise_iff_getElem.1 hris a b ha hb (by omega)
  by_cases hlt : i < j
  · have hh2 : ((i : Int) + (j : Int)) / 2 = (((i + j) / 2 : Nat) : Int) := by omega
    have hm : (i + j) / 2 < l.length := by omega
    obtain ⟨y, hy⟩ := get_some hm
    by_cases hyx : y < x
    · simp only [go_sem, ↓reduceIte, Nat.reduceLT, Nat.reduceLeDiff, Nat.reduceEqDiff, Nat.reduceAdd, Nat.reduceSub, Nat.reduceDiv, Nat.reduceMod, Nat.reduceMul, Nat.reduceBEq, Nat.reduceBNe, reduceCtorEq, Int.reduceLT, Int.reduceLE, Int.reduceEq, Int.reduceNe, Int.reduceBEq, Int.reduceBNe, Int.reduceAdd, Int.reduceSub, Int.reduceNeg, Int.reduceToNat, hlt, hh2, lof_getD hy, hyx, Int.reducePow, Int.pow_one]
      refine ⟨by rw [InK_i64]; omega, by rw [InK_u64]; omega, by omega, by rw [InK_i64]; omega, by omega, by rw [InK_i64]; omega, ⟨((i + j) / 2 + 1, j), by show j - ((i + j) / 2 + 1) < j - i; omega, ⟨by show (i + j) / 2 + 1 ≤ j; omega, h2, fun k u hk hu => ?_, h4⟩, rfl⟩⟩
      have := hris' k ((i + j) / 2) u y (by have : k < (i + j) / 2 + 1 := hk; omega) hu hy
      omega
    · simp only [go_sem, ↓reduceIte, Nat.reduceLT, Nat.reduceLeDiff, Nat.reduceEqDiff, Nat.reduceAdd, Nat.reduceSub, Nat.reduceDiv, Nat.reduceMod, Nat.reduceMul, Nat.reduceBEq, Nat.reduceBNe, reduceCtorEq, Int.reduceLT, Int.reduceLE, Int.reduceEq, Int.reduceNe, Int.reduceBEq, Int.reduceBNe, Int.reduceAdd, Int.reduceSub, Int.reduceNeg, Int.reduceToNat, hlt, hh2, lof_getD hy, hyx, Int.reducePow, Int.pow_one]
      refine ⟨by rw [InK_i64]; omega, by rw [InK_u64]; omega, by omega, by rw [InK_i64]; omega, by omega, ⟨(i, (i + j) / 2), by show (i + j) / 2 - i < j - i; omega, ⟨by show i ≤ (i + j) / 2; omega, by show (i + j) / 2 ≤ l.length; omega, h3, fun k u hk hu => ?_⟩, rfl⟩⟩
      have := hris' ((i + j) / 2) k y u hk hy hu
      omega
  · obtain rfl : i = j := by omega
    have he := lessN_eq (l := l) (x := x) (i := i) h2 h3 (fun y hy => h4 i y (Nat.le_refl _) hy)
    unfold foundB
    rw [he]
    by_cases hl : i < l.length
    · obtain ⟨y, hy⟩ := get_some hl
      rw [hy]
      by_cases hyx : y = x
      · have e1 : (y == x) = true := by simp [hyx]
        simp only [go_sem, ↓reduceIte, Nat.reduceLT, Nat.reduceLeDiff, Nat.reduceEqDiff, Nat.reduceAdd, Nat.reduceSub, Nat.reduceDiv, Nat.reduceMod, Nat.reduceMul, Nat.reduceBEq, Nat.reduceBNe, reduceCtorEq, Int.reduceLT, Int.reduceLE, Int.reduceEq, Int.reduceNe, Int.reduceBEq, Int.reduceBNe, Int.reduceAdd, Int.reduceSub, Int.reduceNeg, Int.reduceToNat, hlt, hl, lof_getD hy, e1]
        rw [decide_eq_true (show some y = some x by rw [hyx])]
        exact ex_le_refl rfl
      · have e1 : (y == x) = false := by simp [hyx]
        simp only [go_sem, ↓reduceIte, Nat.reduceLT, Nat.reduceLeDiff, Nat.reduceEqDiff, Nat.reduceAdd, Nat.reduceSub, Nat.reduceDiv, Nat.reduceMod, Nat.reduceMul, Nat.reduceBEq, Nat.reduceBNe, reduceCtorEq, Int.reduceLT, Int.reduceLE, Int.reduceEq, Int.reduceNe, Int.reduceBEq, Int.reduceBNe, Int.reduceAdd, Int.reduceSub, Int.reduceNeg, Int.reduceToNat, hlt, hl, lof_getD hy, e1]
        rw [decide_eq_false (show ¬ some y = some x by simpa using hyx)]
        exact ex_le_refl rfl
    · have hn : l[i]? = none := List.getElem?_eq_none_iff.2 (by omega)
      rw [hn]
      simp only [go_sem, ↓reduceIte, Nat.reduceLT, Nat.reduceLeDiff, Nat.reduceEqDiff, Nat.reduceAdd, Nat.reduceSub, Nat.reduceDiv, Nat.reduceMod, Nat.reduceMul, Nat.reduceBEq, Nat.reduceBNe, reduceCtorEq, Int.reduceLT, Int.reduceLE, Int.reduceEq, Int.reduceNe, Int.reduceBEq, Int.reduceBNe, Int.reduceAdd, Int.reduceSub, Int.reduceNeg, Int.reduceToNat, hlt, hl]
      exact ex_le_refl (by simp)
noncomputable def tab_bsearch : Tab := tabOf (fun p : (List Int) × (Int) => match p with | (l, x) => [ints l, intP x]) (fun p : (List Int) × (Int) => match p with | (l, x) => l.length ≤ 65536 ∧ R5.Rises l) (fun p : (List Int) × (Int) => match p with | (l, x) => .tuple [natP (lessN l x), boolP (foundB l x)])
theorem tab_bsearch_eq (l : List Int) (x : Int) : tab_bsearch [ints l, intP x] = some (l.length ≤ 65536 ∧ R5.Rises l, .p (.tuple [natP (lessN l x), boolP (foundB l x)])) := tabOf_eq (enc := fun p : (List Int) × (Int) => match p with | (l, x) => [ints l, intP x]) (pre := fun p : (List Int) × (Int) => match p with | (l, x) => l.length ≤ 65536 ∧ R5.Rises l) (out := fun p : (List Int) × (Int) => match p with | (l, x) => .tuple [natP (lessN l x), boolP (foundB l x)]) (by rintro ⟨l, x⟩ ⟨l', x'⟩ h; simp at h; first | (simp [h]; done) | omega | (simp [h]; omega)) (l, x)
theorem tab_bsearch_ok : TabOK Try.prog 68 tab_bsearch := tabOf_ok (by rintro ⟨l, x⟩ h; exact bsearch_spec l x h)
noncomputable abbrev ent_bsearch : FuncId × List Nat × Tab := (68, [1,0], tab_bsearch)
attribute [go_sem] tab_bsearch_eq
end Go.V
