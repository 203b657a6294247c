/-
  The examples of chapters 1 and 2, as the tops run them. Conditions: none.
-/
import Derived.Test.YtaphkenfcnocbaaDoorE1a
import Derived.Test.YtaphkenfcnocbaaDoorD2e
set_option linter.unusedVariables false
set_option linter.unusedSimpArgs false
set_option linter.deprecated false
namespace Go.V
open Go.Proofs
set_option maxRecDepth 100000
set_option maxHeartbeats 4000000

theorem tab_rwE {t : Tab} {args : List PV} {p : Prop} {x y : PV} (h : t args = some (p, .p x)) (hp : p) (hx : x = y) : t args = some (True, .p y) := by rw [h, hx, eq_true hp]
theorem take_eqE {α : Type} {a b : List α} {k : Nat} {x : α} (h : a.take k = b.take k) (ha : a[k]? = some x) (hb : b[k]? = some x) : a.take (k + 1) = b.take (k + 1) := by
  rw [take_succ_of ha, take_succ_of hb, h]
theorem ne_of_getE {α : Type} {a b : List α} {k : Nat} {x y : α} (ha : a[k]? = some x) (hb : b[k]? = some y) (h : x ≠ y) : a ≠ b := fun e => by
  subst e; rw [ha] at hb; exact h (by simpa using hb)
theorem listE_spec (l : List Int) (hpre : True) : Ret Tryd.prog 6 [ints l] (ints l) := by
  refine fn_of (T := []) (N := 4) (RO := []) (CH := []) (KS := [0, 2]) (NS := []) (fun args w => Tryd.call6 args w) Tryd.func6 rfl rfl (by simp) mixed (by kernel_rfl) trivial ?_
  simp only [go_sem, ↓reduceIte, Nat.reduceLT, Nat.reduceLeDiff, Nat.reduceEqDiff, Nat.reduceAdd, Nat.reduceSub, Nat.reduceDiv, Nat.reduceMod, Nat.reduceMul, Nat.reduceBEq, Nat.reduceBNe, reduceCtorEq, Int.reduceLT, Int.reduceLE, Int.reduceEq, Int.reduceNe, Int.reduceBEq, Int.reduceBNe, Int.reduceAdd, Int.reduceSub, Int.reduceNeg, Int.reduceToNat]
  exact ex_le_refl rfl
noncomputable def tab_listE : Tab := tabOf (fun p : (List Int) => match p with | l => [ints l]) (fun p : (List Int) => match p with | l => True) (fun p : (List Int) => match p with | l => ints l)
theorem tab_listE_eq (l : List Int) : tab_listE [ints l] = some (True, .p (ints l)) := tabOf_eq (enc := fun p : (List Int) => match p with | l => [ints l]) (pre := fun p : (List Int) => match p with | l => True) (out := fun p : (List Int) => match p with | l => ints l) (by rintro l l' h; simp at h; first | (simp [h]; done) | omega | (simp [h]; omega)) (l)
theorem tab_listE_ok : TabOK Tryd.prog 6 tab_listE := tabOf_ok (by rintro l h; exact listE_spec l h)
noncomputable abbrev ent_listE : FuncId × List Nat × Tab := (6, [1], tab_listE)
attribute [go_sem] tab_listE_eq
theorem sameE_spec (a : List Int) (b : List Int) (hpre : sz a.length) : Ret Tryd.prog 22 [ints a, ints b] (boolP (decide (a = b))) := by
  refine fn_of (T := []) (N := 26) (RO := []) (CH := []) (KS := [0, 1, 4, 5, 10, 12, 13, 14, 24]) (NS := []) (fun args w => Tryd.call22 args w) Tryd.func22 rfl rfl (by simp) mixed (by kernel_rfl) trivial ?_
  simp only [go_sem, ↓reduceIte, Nat.reduceLT, Nat.reduceLeDiff, Nat.reduceEqDiff, Nat.reduceAdd, Nat.reduceSub, Nat.reduceDiv, Nat.reduceMod, Nat.reduceMul, Nat.reduceBEq, Nat.reduceBNe, reduceCtorEq, Int.reduceLT, Int.reduceLE, Int.reduceEq, Int.reduceNe, Int.reduceBEq, Int.reduceBNe, Int.reduceAdd, Int.reduceSub, Int.reduceNeg, Int.reduceToNat]
  by_cases hl : (a.length : Int) = b.length
  · simp only [go_sem, ↓reduceIte, Nat.reduceLT, Nat.reduceLeDiff, Nat.reduceEqDiff, Nat.reduceAdd, Nat.reduceSub, Nat.reduceDiv, Nat.reduceMod, Nat.reduceMul, Nat.reduceBEq, Nat.reduceBNe, reduceCtorEq, Int.reduceLT, Int.reduceLE, Int.reduceEq, Int.reduceNe, Int.reduceBEq, Int.reduceBNe, Int.reduceAdd, Int.reduceSub, Int.reduceNeg, Int.reduceToNat, show ((a.length : Int) != (b.length : Int)) = false by simp; omega]
    refine vfor [0,1,12,13] [] [] a.length (fun k => a.take k = b.take k) (fun k => ⟨[(0,.p (ints a)),(1,.p (ints b)),(12,.p (natP a.length)),(13,.p (natP k))], []⟩) (by first | rfl | (simp only [go_sem, ↓reduceIte, Nat.reduceLT, Nat.reduceLeDiff, Nat.reduceEqDiff, Nat.reduceAdd, Nat.reduceSub, Nat.reduceDiv, Nat.reduceMod, Nat.reduceMul, Nat.reduceBEq, Nat.reduceBNe, reduceCtorEq, Int.reduceLT, Int.reduceLE, Int.reduceEq, Int.reduceNe, Int.reduceBEq, Int.reduceBNe, Int.reduceAdd, Int.reduceSub, Int.reduceNeg, Int.reduceToNat]; first | done | rfl)) (by simp) ?_
    intro k hk hI
    by_cases hlt : k < a.length
    · obtain ⟨x, hx⟩ := get_some hlt
      have hlb : k < b.length := by omega
      obtain ⟨y, hy⟩ := get_some hlb
      by_cases e : x = y
      · subst e
        have := take_eqE hI hx hy
        simp only [go_sem, ↓reduceIte, Nat.reduceLT, Nat.reduceLeDiff, Nat.reduceEqDiff, Nat.reduceAdd, Nat.reduceSub, Nat.reduceDiv, Nat.reduceMod, Nat.reduceMul, Nat.reduceBEq, Nat.reduceBNe, reduceCtorEq, Int.reduceLT, Int.reduceLE, Int.reduceEq, Int.reduceNe, Int.reduceBEq, Int.reduceBNe, Int.reduceAdd, Int.reduceSub, Int.reduceNeg, Int.reduceToNat, hlt, hlb, lof_getD hx, lof_getD hy, bne_self_eq_false]
        (repeat' (first | assumption | (rw [InK_i64]; omega) | (rw [InK_u8]; omega) | (rw [InK_u64]; omega) | omega | rfl | apply And.intro))
      · simp only [go_sem, ↓reduceIte, Nat.reduceLT, Nat.reduceLeDiff, Nat.reduceEqDiff, Nat.reduceAdd, Nat.reduceSub, Nat.reduceDiv, Nat.reduceMod, Nat.reduceMul, Nat.reduceBEq, Nat.reduceBNe, reduceCtorEq, Int.reduceLT, Int.reduceLE, Int.reduceEq, Int.reduceNe, Int.reduceBEq, Int.reduceBNe, Int.reduceAdd, Int.reduceSub, Int.reduceNeg, Int.reduceToNat, hlt, hlb, lof_getD hx, lof_getD hy, show (x != y) = true by simp [e]]
        exact ex_le_refl (by simp [ne_of_getE hx hy e])
    · obtain rfl : k = a.length := by omega
      simp only [go_sem, ↓reduceIte, Nat.reduceLT, Nat.reduceLeDiff, Nat.reduceEqDiff, Nat.reduceAdd, Nat.reduceSub, Nat.reduceDiv, Nat.reduceMod, Nat.reduceMul, Nat.reduceBEq, Nat.reduceBNe, reduceCtorEq, Int.reduceLT, Int.reduceLE, Int.reduceEq, Int.reduceNe, Int.reduceBEq, Int.reduceBNe, Int.reduceAdd, Int.reduceSub, Int.reduceNeg, Int.reduceToNat, hlt]
      rw [List.take_of_length_le (by omega), List.take_of_length_le (by omega)] at hI
      exact ex_le_refl (by simp [hI])
  · simp only [go_sem, ↓reduceIte, Nat.reduceLT, Nat.reduceLeDiff, Nat.reduceEqDiff, Nat.reduceAdd, Nat.reduceSub, Nat.reduceDiv, Nat.reduceMod, Nat.reduceMul, Nat.reduceBEq, Nat.reduceBNe, reduceCtorEq, Int.reduceLT, Int.reduceLE, Int.reduceEq, Int.reduceNe, Int.reduceBEq, Int.reduceBNe, Int.reduceAdd, Int.reduceSub, Int.reduceNeg, Int.reduceToNat, show ((a.length : Int) != (b.length : Int)) = true by simp; omega]
    exact ex_le_refl (by simp; intro e; subst e; exact hl rfl)
noncomputable def tab_sameE : Tab := tabOf (fun p : (List Int) × (List Int) => match p with | (a, b) => [ints a, ints b]) (fun p : (List Int) × (List Int) => match p with | (a, b) => sz a.length) (fun p : (List Int) × (List Int) => match p with | (a, b) => boolP (decide (a = b)))
theorem tab_sameE_eq (a : List Int) (b : List Int) : tab_sameE [ints a, ints b] = some (sz a.length, .p (boolP (decide (a = b)))) := tabOf_eq (enc := fun p : (List Int) × (List Int) => match p with | (a, b) => [ints a, ints b]) (pre := fun p : (List Int) × (List Int) => match p with | (a, b) => sz a.length) (out := fun p : (List Int) × (List Int) => match p with | (a, b) => boolP (decide (a = b))) (by rintro ⟨a, b⟩ ⟨a', b'⟩ h; simp at h; first | (simp [h]; done) | omega | (simp [h]; omega)) (a, b)
theorem tab_sameE_ok : TabOK Tryd.prog 22 tab_sameE := tabOf_ok (by rintro ⟨a, b⟩ h; exact sameE_spec a b h)
noncomputable abbrev ent_sameE : FuncId × List Nat × Tab := (22, [1, 1], tab_sameE)
attribute [go_sem] tab_sameE_eq

def exS : List R2.EI := [⟨0, 1⟩, ⟨0, 2⟩, ⟨0, 3⟩]
theorem exS_few : tab_fewest2 [mapI 4 exS] = some (True, .p (.tuple [ints [0, 1, 2], errP 0])) := tab_rwE (tab_fewest2_eq _ _) (by decide) (by rw [show R2.checkM 4 exS = 0 by decide +kernel, show (if (0 : Int) = 0 then ofN (R2.fewM (R2.natL exS)) else []) = ([0, 1, 2] : List Int) by decide +kernel])
theorem roundsWork_spec  (hpre : True) : Ret Tryd.prog 34 [] (boolP true) := by
  refine fn_of (T := [ent_divide1, ent_listE, ent_sameE, ent_fewest2]) (N := 38) (RO := [6, 15, 28, 34]) (CH := []) (KS := [0, 1, 2, 3, 4]) (NS := []) (fun args w => Tryd.call34 args w) Tryd.func34 rfl rfl (by simp) mixed (by kernel_rfl) ⟨tab_divide1_ok, tab_listE_ok, tab_sameE_ok, tab_fewest2_ok, trivial⟩ ?_
  have e1 : tab_listE [PV.list LM.any 1 [intP 100, intP 200, intP 300]] = _ := tab_listE_eq [100, 200, 300]
  have e2 : tab_listE [PV.list LM.any 1 [intP 6000, intP 9000, intP 9000]] = _ := tab_listE_eq [6000, 9000, 9000]
  have e3 : tab_listE [PV.list LM.any 1 [intP 0, intP 1, intP 2]] = _ := tab_listE_eq [0, 1, 2]
  have ef : tab_fewest2 [PV.agg [intP 4, PV.list .any 2 [PV.agg [intP 0, intP 1], PV.agg [intP 0, intP 2], PV.agg [intP 0, intP 3]]]] = _ := exS_few
  have d1 : ∀ l : List Int, decide (l = l) = true := fun l => by simp
  simp (maxSteps := 4000000) only [go_sem, ↓reduceIte, Nat.reduceLT, Nat.reduceLeDiff, Nat.reduceEqDiff, Nat.reduceAdd, Nat.reduceSub, Nat.reduceDiv, Nat.reduceMod, Nat.reduceMul, Nat.reduceBEq, Nat.reduceBNe, reduceCtorEq, Int.reduceLT, Int.reduceLE, Int.reduceEq, Int.reduceNe, Int.reduceBEq, Int.reduceBNe, Int.reduceAdd, Int.reduceSub, Int.reduceNeg, Int.reduceToNat, e1, e2, e3, ef, d1]
  exact ⟨by decide, by decide, ex_le_refl rfl⟩
noncomputable def tab_roundsWork : Tab := tabOf (fun p : (Unit) => match p with | _u => []) (fun p : (Unit) => match p with | _u => True) (fun p : (Unit) => match p with | _u => boolP true)
theorem tab_roundsWork_eq  : tab_roundsWork [] = some (True, .p (boolP true)) := tabOf_eq (enc := fun p : (Unit) => match p with | _u => []) (pre := fun p : (Unit) => match p with | _u => True) (out := fun p : (Unit) => match p with | _u => boolP true) (by intro a b _; rfl) ()
theorem tab_roundsWork_ok : TabOK Tryd.prog 34 tab_roundsWork := tabOf_ok (by rintro _ h; exact roundsWork_spec  h)
noncomputable abbrev ent_roundsWork : FuncId × List Nat × Tab := (34, [], tab_roundsWork)
attribute [go_sem] tab_roundsWork_eq
end Go.V
