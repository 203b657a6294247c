/-
  Contracts of functions of Go's library. Conditions: none.
-/
import Derived.Test.YtlkanfakfmklbaaDoorC06s
import Derived.Test.YtlkanfakfmklbaaDoorP6l
import Derived.Laws.Bits128
set_option linter.unusedVariables false
set_option linter.unusedSimpArgs false
set_option linter.deprecated false
namespace Go.V
open Go.Proofs
set_option maxRecDepth 10000
set_option maxHeartbeats 1000000

instance (k : IntKind) (n : Int) : Decidable (InK k n) := inferInstanceAs (Decidable (_ ∧ _))
abbrev factsP (l : List Nat) : PV := .list .any 1 (lof u8P l)
abbrev bothP (s : Nat × Nat) : PV := .agg [u8P s.1, u8P s.2]
abbrev bothsP (l : List (Nat × Nat)) : PV := .list .any 2 (lof bothP l)
@[simp] theorem lof_u8P_inj {l l' : List Nat} : lof u8P l = lof u8P l' ↔ l = l' := lof_inj (by intro a b h; simp at h; omega)
@[simp] theorem lof_bothP_inj {l l' : List (Nat × Nat)} : lof bothP l = lof bothP l' ↔ l = l' := lof_inj (by rintro ⟨a, b⟩ ⟨d, e⟩ h; simp at h; simp; omega)
@[go_sem] theorem facts_snoc (l : List Nat) (x : Nat) : lof u8P l ++ [.val (.int .u8 (x : Int))] = lof u8P (l ++ [x]) := by simp [lof]
@[go_sem] theorem boths_snoc (l : List (Nat × Nat)) (a b : Nat) : lof bothP l ++ [.agg [.val (.int .u8 (a : Int)), .val (.int .u8 (b : Int))]] = lof bothP (l ++ [(a, b)]) := by simp [lof]
@[go_sem] theorem pvs_map (l : List PV) : pvs (l.map .p) = some l := by
  induction l with
  | nil => rfl
  | cons x l ih => simp [pvs, ih]

theorem indexF_spec (l : List Nat) (v : Nat) (hpre : sz l.length) : Ret Tryd.prog 71 [factsP l, u8P v] (intP (idxBy (v == ·) l)) := by
  refine fn_of (T := []) (N := 19) (RO := []) (CH := []) (KS := [0, 1, 4, 5, 7, 8, 9, 16]) (NS := []) (fun args w => Tryd.call71 args w) Tryd.func71 rfl rfl (by simp) mixed (by kernel_rfl) trivial ?_
  simp only [go_sem, ↓reduceIte, Nat.reduceLT, Nat.reduceLeDiff, Nat.reduceEqDiff, Nat.reduceAdd, Nat.reduceSub, Nat.reduceDiv, Nat.reduceMod, Nat.reduceMul, Nat.reduceBEq, Nat.reduceBNe, reduceCtorEq, Int.reduceLT, Int.reduceLE, Int.reduceEq, Int.reduceNe, Int.reduceBEq, Int.reduceBNe, Int.reduceAdd, Int.reduceSub, Int.reduceNeg, Int.reduceToNat]
  refine vfor [0,1,7,8] [] [] l.length (fun k => ∀ j x, j < k → l[j]? = some x → (v == x) = false) (fun k => ⟨[(0,.p (factsP l)),(1,.p (u8P v)),(7,.p (natP l.length)),(8,.p (natP k))], []⟩) rfl (by simp) ?_
  intro k hk hI
  by_cases hlt : k < l.length
  · obtain ⟨x, hx⟩ := get_some hlt
    by_cases hv : (v == x) = true
    · simp only [go_sem, ↓reduceIte, Nat.reduceLT, Nat.reduceLeDiff, Nat.reduceEqDiff, Nat.reduceAdd, Nat.reduceSub, Nat.reduceDiv, Nat.reduceMod, Nat.reduceMul, Nat.reduceBEq, Nat.reduceBNe, reduceCtorEq, Int.reduceLT, Int.reduceLE, Int.reduceEq, Int.reduceNe, Int.reduceBEq, Int.reduceBNe, Int.reduceAdd, Int.reduceSub, Int.reduceNeg, Int.reduceToNat, hlt, lof_getD hx, cast_beq, hv]
      exact ex_le_refl (by rw [idxBy_hit hI hx hv])
    · rw [Bool.not_eq_true] at hv
      simp only [go_sem, ↓reduceIte, Nat.reduceLT, Nat.reduceLeDiff, Nat.reduceEqDiff, Nat.reduceAdd, Nat.reduceSub, Nat.reduceDiv, Nat.reduceMod, Nat.reduceMul, Nat.reduceBEq, Nat.reduceBNe, reduceCtorEq, Int.reduceLT, Int.reduceLE, Int.reduceEq, Int.reduceNe, Int.reduceBEq, Int.reduceBNe, Int.reduceAdd, Int.reduceSub, Int.reduceNeg, Int.reduceToNat, hlt, lof_getD hx, cast_beq, hv]
      refine ⟨by rw [InK_i64]; omega, fun j y hj hy => ?_, rfl⟩
      by_cases e : j = k
      · subst e; rw [hx] at hy; cases hy; exact hv
      · exact hI j y (by omega) hy
  · simp only [go_sem, ↓reduceIte, Nat.reduceLT, Nat.reduceLeDiff, Nat.reduceEqDiff, Nat.reduceAdd, Nat.reduceSub, Nat.reduceDiv, Nat.reduceMod, Nat.reduceMul, Nat.reduceBEq, Nat.reduceBNe, reduceCtorEq, Int.reduceLT, Int.reduceLE, Int.reduceEq, Int.reduceNe, Int.reduceBEq, Int.reduceBNe, Int.reduceAdd, Int.reduceSub, Int.reduceNeg, Int.reduceToNat, hlt]
    exact ex_le_refl (by rw [idxBy_none (fun j x hx => hI j x (by have := (List.getElem?_eq_some_iff.1 hx).1; omega) hx)])
noncomputable def tab_indexF : Tab := tabOf (fun p : (List Nat) × (Nat) => match p with | (l, v) => [factsP l, u8P v]) (fun p : (List Nat) × (Nat) => match p with | (l, v) => sz l.length) (fun p : (List Nat) × (Nat) => match p with | (l, v) => intP (idxBy (v == ·) l))
theorem tab_indexF_eq (l : List Nat) (v : Nat) : tab_indexF [factsP l, u8P v] = some (sz l.length, .p (intP (idxBy (v == ·) l))) := tabOf_eq (enc := fun p : (List Nat) × (Nat) => match p with | (l, v) => [factsP l, u8P v]) (pre := fun p : (List Nat) × (Nat) => match p with | (l, v) => sz l.length) (out := fun p : (List Nat) × (Nat) => match p with | (l, v) => intP (idxBy (v == ·) l)) (by rintro ⟨l, v⟩ ⟨l', v'⟩ h; simp at h; first | (simp [h]; done) | omega | (simp [h]; omega)) (l, v)
theorem tab_indexF_ok : TabOK Tryd.prog 71 tab_indexF := tabOf_ok (by rintro ⟨l, v⟩ h; exact indexF_spec l v h)
noncomputable abbrev ent_indexF : FuncId × List Nat × Tab := (71, [1], tab_indexF)
attribute [go_sem] tab_indexF_eq

theorem containsF_spec (l : List Nat) (v : Nat) (hpre : sz l.length) : Ret Tryd.prog 56 [factsP l, u8P v] (boolP (l.any (v == ·))) := by
  refine fn_of (T := [ent_indexF]) (N := 9) (RO := []) (CH := []) (KS := [0, 1, 4]) (NS := []) (fun args w => Tryd.call56 args w) Tryd.func56 rfl rfl (by simp) mixed (by kernel_rfl) ⟨tab_indexF_ok, trivial⟩ ?_
  simp only [go_sem, ↓reduceIte, Nat.reduceLT, Nat.reduceLeDiff, Nat.reduceEqDiff, Nat.reduceAdd, Nat.reduceSub, Nat.reduceDiv, Nat.reduceMod, Nat.reduceMul, Nat.reduceBEq, Nat.reduceBNe, reduceCtorEq, Int.reduceLT, Int.reduceLE, Int.reduceEq, Int.reduceNe, Int.reduceBEq, Int.reduceBNe, Int.reduceAdd, Int.reduceSub, Int.reduceNeg, Int.reduceToNat]
  exact ⟨hpre, ex_le_refl (by rw [idxBy_pos])⟩
noncomputable def tab_containsF : Tab := tabOf (fun p : (List Nat) × (Nat) => match p with | (l, v) => [factsP l, u8P v]) (fun p : (List Nat) × (Nat) => match p with | (l, v) => sz l.length) (fun p : (List Nat) × (Nat) => match p with | (l, v) => boolP (l.any (v == ·)))
theorem tab_containsF_eq (l : List Nat) (v : Nat) : tab_containsF [factsP l, u8P v] = some (sz l.length, .p (boolP (l.any (v == ·)))) := tabOf_eq (enc := fun p : (List Nat) × (Nat) => match p with | (l, v) => [factsP l, u8P v]) (pre := fun p : (List Nat) × (Nat) => match p with | (l, v) => sz l.length) (out := fun p : (List Nat) × (Nat) => match p with | (l, v) => boolP (l.any (v == ·))) (by rintro ⟨l, v⟩ ⟨l', v'⟩ h; simp at h; first | (simp [h]; done) | omega | (simp [h]; omega)) (l, v)
theorem tab_containsF_ok : TabOK Tryd.prog 56 tab_containsF := tabOf_ok (by rintro ⟨l, v⟩ h; exact containsF_spec l v h)
noncomputable abbrev ent_containsF : FuncId × List Nat × Tab := (56, [1], tab_containsF)
attribute [go_sem] tab_containsF_eq

theorem indexB_spec (l : List (Nat × Nat)) (v1 : Nat) (v2 : Nat) (hpre : sz l.length) : Ret Tryd.prog 72 [bothsP l, .agg [u8P v1, u8P v2]] (intP (idxBy ((v1, v2) == ·) l)) := by
  refine fn_of (T := []) (N := 19) (RO := [3]) (CH := []) (KS := [0, 1, 3, 4, 5, 7, 8, 9, 16]) (NS := []) (fun args w => Tryd.call72 args w) Tryd.func72 rfl rfl (by simp) mixed (by kernel_rfl) trivial ?_
  simp only [go_sem, ↓reduceIte, Nat.reduceLT, Nat.reduceLeDiff, Nat.reduceEqDiff, Nat.reduceAdd, Nat.reduceSub, Nat.reduceDiv, Nat.reduceMod, Nat.reduceMul, Nat.reduceBEq, Nat.reduceBNe, reduceCtorEq, Int.reduceLT, Int.reduceLE, Int.reduceEq, Int.reduceNe, Int.reduceBEq, Int.reduceBNe, Int.reduceAdd, Int.reduceSub, Int.reduceNeg, Int.reduceToNat]
  refine vfor [0,3,7,8] [] [] l.length (fun k => ∀ j x, j < k → l[j]? = some x → ((v1, v2) == x) = false) (fun k => ⟨[(0,.p (bothsP l)),(3,.p (.ref [u8P v1, u8P v2] 0)),(7,.p (natP l.length)),(8,.p (natP k))], []⟩) rfl (by simp) ?_
  intro k hk hI
  by_cases hlt : k < l.length
  · obtain ⟨⟨x1, x2⟩, hx⟩ := get_some hlt
    have hb : ((v1, v2) == (x1, x2)) = (v1 == x1 && v2 == x2) := rfl
    by_cases hv : (v1 == x1 && v2 == x2) = true
    · simp only [go_sem, ↓reduceIte, Nat.reduceLT, Nat.reduceLeDiff, Nat.reduceEqDiff, Nat.reduceAdd, Nat.reduceSub, Nat.reduceDiv, Nat.reduceMod, Nat.reduceMul, Nat.reduceBEq, Nat.reduceBNe, reduceCtorEq, Int.reduceLT, Int.reduceLE, Int.reduceEq, Int.reduceNe, Int.reduceBEq, Int.reduceBNe, Int.reduceAdd, Int.reduceSub, Int.reduceNeg, Int.reduceToNat, hlt, lof_getD hx, cast_beq, hv]
      exact ex_le_refl (by rw [idxBy_hit hI hx (hb.trans hv)])
    · rw [Bool.not_eq_true] at hv
      simp only [go_sem, ↓reduceIte, Nat.reduceLT, Nat.reduceLeDiff, Nat.reduceEqDiff, Nat.reduceAdd, Nat.reduceSub, Nat.reduceDiv, Nat.reduceMod, Nat.reduceMul, Nat.reduceBEq, Nat.reduceBNe, reduceCtorEq, Int.reduceLT, Int.reduceLE, Int.reduceEq, Int.reduceNe, Int.reduceBEq, Int.reduceBNe, Int.reduceAdd, Int.reduceSub, Int.reduceNeg, Int.reduceToNat, hlt, lof_getD hx, cast_beq, hv]
      refine ⟨by rw [InK_i64]; omega, fun j y hj hy => ?_, rfl⟩
      by_cases e : j = k
      · subst e; rw [hx] at hy; cases hy; exact hb.trans hv
      · exact hI j y (by omega) hy
  · simp only [go_sem, ↓reduceIte, Nat.reduceLT, Nat.reduceLeDiff, Nat.reduceEqDiff, Nat.reduceAdd, Nat.reduceSub, Nat.reduceDiv, Nat.reduceMod, Nat.reduceMul, Nat.reduceBEq, Nat.reduceBNe, reduceCtorEq, Int.reduceLT, Int.reduceLE, Int.reduceEq, Int.reduceNe, Int.reduceBEq, Int.reduceBNe, Int.reduceAdd, Int.reduceSub, Int.reduceNeg, Int.reduceToNat, hlt]
    exact ex_le_refl (by rw [idxBy_none (fun j x hx => hI j x (by have := (List.getElem?_eq_some_iff.1 hx).1; omega) hx)])
noncomputable def tab_indexB : Tab := tabOf (fun p : (List (Nat × Nat)) × (Nat) × (Nat) => match p with | (l, v1, v2) => [bothsP l, .agg [u8P v1, u8P v2]]) (fun p : (List (Nat × Nat)) × (Nat) × (Nat) => match p with | (l, v1, v2) => sz l.length) (fun p : (List (Nat × Nat)) × (Nat) × (Nat) => match p with | (l, v1, v2) => intP (idxBy ((v1, v2) == ·) l))
theorem tab_indexB_eq (l : List (Nat × Nat)) (v1 : Nat) (v2 : Nat) : tab_indexB [bothsP l, .agg [u8P v1, u8P v2]] = some (sz l.length, .p (intP (idxBy ((v1, v2) == ·) l))) := tabOf_eq (enc := fun p : (List (Nat × Nat)) × (Nat) × (Nat) => match p with | (l, v1, v2) => [bothsP l, .agg [u8P v1, u8P v2]]) (pre := fun p : (List (Nat × Nat)) × (Nat) × (Nat) => match p with | (l, v1, v2) => sz l.length) (out := fun p : (List (Nat × Nat)) × (Nat) × (Nat) => match p with | (l, v1, v2) => intP (idxBy ((v1, v2) == ·) l)) (by rintro ⟨l, v1, v2⟩ ⟨l', v1', v2'⟩ h; simp at h; first | (simp [h]; done) | omega | (simp [h]; omega)) (l, v1, v2)
theorem tab_indexB_ok : TabOK Tryd.prog 72 tab_indexB := tabOf_ok (by rintro ⟨l, v1, v2⟩ h; exact indexB_spec l v1 v2 h)
noncomputable abbrev ent_indexB : FuncId × List Nat × Tab := (72, [2], tab_indexB)
attribute [go_sem] tab_indexB_eq

theorem containsB_spec (l : List (Nat × Nat)) (v1 : Nat) (v2 : Nat) (hpre : sz l.length) : Ret Tryd.prog 62 [bothsP l, .agg [u8P v1, u8P v2]] (boolP (l.any ((v1, v2) == ·))) := by
  refine fn_of (T := [ent_indexB]) (N := 9) (RO := [3]) (CH := []) (KS := [0, 1, 3, 4]) (NS := []) (fun args w => Tryd.call62 args w) Tryd.func62 rfl rfl (by simp) mixed (by kernel_rfl) ⟨tab_indexB_ok, trivial⟩ ?_
  simp only [go_sem, ↓reduceIte, Nat.reduceLT, Nat.reduceLeDiff, Nat.reduceEqDiff, Nat.reduceAdd, Nat.reduceSub, Nat.reduceDiv, Nat.reduceMod, Nat.reduceMul, Nat.reduceBEq, Nat.reduceBNe, reduceCtorEq, Int.reduceLT, Int.reduceLE, Int.reduceEq, Int.reduceNe, Int.reduceBEq, Int.reduceBNe, Int.reduceAdd, Int.reduceSub, Int.reduceNeg, Int.reduceToNat]
  exact ⟨hpre, ex_le_refl (by rw [idxBy_pos])⟩
noncomputable def tab_containsB : Tab := tabOf (fun p : (List (Nat × Nat)) × (Nat) × (Nat) => match p with | (l, v1, v2) => [bothsP l, .agg [u8P v1, u8P v2]]) (fun p : (List (Nat × Nat)) × (Nat) × (Nat) => match p with | (l, v1, v2) => sz l.length) (fun p : (List (Nat × Nat)) × (Nat) × (Nat) => match p with | (l, v1, v2) => boolP (l.any ((v1, v2) == ·)))
theorem tab_containsB_eq (l : List (Nat × Nat)) (v1 : Nat) (v2 : Nat) : tab_containsB [bothsP l, .agg [u8P v1, u8P v2]] = some (sz l.length, .p (boolP (l.any ((v1, v2) == ·)))) := tabOf_eq (enc := fun p : (List (Nat × Nat)) × (Nat) × (Nat) => match p with | (l, v1, v2) => [bothsP l, .agg [u8P v1, u8P v2]]) (pre := fun p : (List (Nat × Nat)) × (Nat) × (Nat) => match p with | (l, v1, v2) => sz l.length) (out := fun p : (List (Nat × Nat)) × (Nat) × (Nat) => match p with | (l, v1, v2) => boolP (l.any ((v1, v2) == ·))) (by rintro ⟨l, v1, v2⟩ ⟨l', v1', v2'⟩ h; simp at h; first | (simp [h]; done) | omega | (simp [h]; omega)) (l, v1, v2)
theorem tab_containsB_ok : TabOK Tryd.prog 62 tab_containsB := tabOf_ok (by rintro ⟨l, v1, v2⟩ h; exact containsB_spec l v1 v2 h)
noncomputable abbrev ent_containsB : FuncId × List Nat × Tab := (62, [2], tab_containsB)
attribute [go_sem] tab_containsB_eq

theorem indexFuncK {g : FuncId} {caps : List PV} {p : R6.Kn → Bool} {l : List R6.Kn} (hz : sz l.length) (hg : ∀ k ∈ l, Ret Tryd.prog g (knP k :: caps) (boolP (p k))) :
    Ret Tryd.prog 55 [knsP l, .func g caps] (intP (idxBy p l)) := by
  refine fn_of (T := []) (N := 19) (RO := []) (CH := []) (KS := [0, 1, 4, 5, 7, 8, 9, 16]) (NS := []) (fun args w => Tryd.call55 args w) Tryd.func55 rfl rfl (by simp) mixed (by kernel_rfl) trivial ?_
  simp only [go_sem, ↓reduceIte, Nat.reduceLT, Nat.reduceLeDiff, Nat.reduceEqDiff, Nat.reduceAdd, Nat.reduceSub, Nat.reduceDiv, Nat.reduceMod, Nat.reduceMul, Nat.reduceBEq, Nat.reduceBNe, reduceCtorEq, Int.reduceLT, Int.reduceLE, Int.reduceEq, Int.reduceNe, Int.reduceBEq, Int.reduceBNe, Int.reduceAdd, Int.reduceSub, Int.reduceNeg, Int.reduceToNat]
  refine vfor [0,1,7,8] [] [] l.length (fun k => ∀ j x, j < k → l[j]? = some x → p x = false) (fun k => ⟨[(0,.p (knsP l)),(1,.p (.func g caps)),(7,.p (natP l.length)),(8,.p (natP k))], []⟩) rfl (by simp) ?_
  intro k hk hI
  by_cases hlt : k < l.length
  · obtain ⟨x, hx⟩ := get_some hlt
    simp only [go_sem, ↓reduceIte, Nat.reduceLT, Nat.reduceLeDiff, Nat.reduceEqDiff, Nat.reduceAdd, Nat.reduceSub, Nat.reduceDiv, Nat.reduceMod, Nat.reduceMul, Nat.reduceBEq, Nat.reduceBNe, reduceCtorEq, Int.reduceLT, Int.reduceLE, Int.reduceEq, Int.reduceNe, Int.reduceBEq, Int.reduceBNe, Int.reduceAdd, Int.reduceSub, Int.reduceNeg, Int.reduceToNat, hlt, lof_getD hx]
    refine vret_pure (hg x (List.mem_of_getElem? hx)) (by simp only [go_sem, ↓reduceIte, Nat.reduceLT, Nat.reduceLeDiff, Nat.reduceEqDiff, Nat.reduceAdd, Nat.reduceSub, Nat.reduceDiv, Nat.reduceMod, Nat.reduceMul, Nat.reduceBEq, Nat.reduceBNe, reduceCtorEq, Int.reduceLT, Int.reduceLE, Int.reduceEq, Int.reduceNe, Int.reduceBEq, Int.reduceBNe, Int.reduceAdd, Int.reduceSub, Int.reduceNeg, Int.reduceToNat]) (LeL.refl _) (by decide) ?_
    by_cases hv : p x = true
    · simp only [go_sem, ↓reduceIte, Nat.reduceLT, Nat.reduceLeDiff, Nat.reduceEqDiff, Nat.reduceAdd, Nat.reduceSub, Nat.reduceDiv, Nat.reduceMod, Nat.reduceMul, Nat.reduceBEq, Nat.reduceBNe, reduceCtorEq, Int.reduceLT, Int.reduceLE, Int.reduceEq, Int.reduceNe, Int.reduceBEq, Int.reduceBNe, Int.reduceAdd, Int.reduceSub, Int.reduceNeg, Int.reduceToNat, hv]
      exact ex_le_refl (by rw [idxBy_hit hI hx hv])
    · rw [Bool.not_eq_true] at hv
      simp only [go_sem, ↓reduceIte, Nat.reduceLT, Nat.reduceLeDiff, Nat.reduceEqDiff, Nat.reduceAdd, Nat.reduceSub, Nat.reduceDiv, Nat.reduceMod, Nat.reduceMul, Nat.reduceBEq, Nat.reduceBNe, reduceCtorEq, Int.reduceLT, Int.reduceLE, Int.reduceEq, Int.reduceNe, Int.reduceBEq, Int.reduceBNe, Int.reduceAdd, Int.reduceSub, Int.reduceNeg, Int.reduceToNat, hv]
      refine ⟨by rw [InK_i64]; omega, hlt, fun j y hj hy => ?_, rfl⟩
      by_cases e : j = k
      · subst e; rw [hx] at hy; cases hy; exact hv
      · exact hI j y (by omega) hy
  · simp only [go_sem, ↓reduceIte, Nat.reduceLT, Nat.reduceLeDiff, Nat.reduceEqDiff, Nat.reduceAdd, Nat.reduceSub, Nat.reduceDiv, Nat.reduceMod, Nat.reduceMul, Nat.reduceBEq, Nat.reduceBNe, reduceCtorEq, Int.reduceLT, Int.reduceLE, Int.reduceEq, Int.reduceNe, Int.reduceBEq, Int.reduceBNe, Int.reduceAdd, Int.reduceSub, Int.reduceNeg, Int.reduceToNat, hlt]
    exact ex_le_refl (by rw [idxBy_none (fun j x hx => hI j x (by have := (List.getElem?_eq_some_iff.1 hx).1; omega) hx)])
theorem containsFuncK {g : FuncId} {caps : List PV} {p : R6.Kn → Bool} {l : List R6.Kn} (hz : sz l.length) (hg : ∀ k ∈ l, Ret Tryd.prog g (knP k :: caps) (boolP (p k))) :
    Ret Tryd.prog 32 [knsP l, .func g caps] (boolP (l.any p)) := by
  refine fn_of (T := []) (N := 9) (RO := []) (CH := []) (KS := [0, 1, 4]) (NS := []) (fun args w => Tryd.call32 args w) Tryd.func32 rfl rfl (by simp) mixed (by kernel_rfl) trivial ?_
  simp only [go_sem, ↓reduceIte, Nat.reduceLT, Nat.reduceLeDiff, Nat.reduceEqDiff, Nat.reduceAdd, Nat.reduceSub, Nat.reduceDiv, Nat.reduceMod, Nat.reduceMul, Nat.reduceBEq, Nat.reduceBNe, reduceCtorEq, Int.reduceLT, Int.reduceLE, Int.reduceEq, Int.reduceNe, Int.reduceBEq, Int.reduceBNe, Int.reduceAdd, Int.reduceSub, Int.reduceNeg, Int.reduceToNat]
  refine vret_pure (indexFuncK hz hg) (by simp only [go_sem, ↓reduceIte, Nat.reduceLT, Nat.reduceLeDiff, Nat.reduceEqDiff, Nat.reduceAdd, Nat.reduceSub, Nat.reduceDiv, Nat.reduceMod, Nat.reduceMul, Nat.reduceBEq, Nat.reduceBNe, reduceCtorEq, Int.reduceLT, Int.reduceLE, Int.reduceEq, Int.reduceNe, Int.reduceBEq, Int.reduceBNe, Int.reduceAdd, Int.reduceSub, Int.reduceNeg, Int.reduceToNat]) (LeL.refl _) (by decide) ?_
  simp only [go_sem, ↓reduceIte, Nat.reduceLT, Nat.reduceLeDiff, Nat.reduceEqDiff, Nat.reduceAdd, Nat.reduceSub, Nat.reduceDiv, Nat.reduceMod, Nat.reduceMul, Nat.reduceBEq, Nat.reduceBNe, reduceCtorEq, Int.reduceLT, Int.reduceLE, Int.reduceEq, Int.reduceNe, Int.reduceBEq, Int.reduceBNe, Int.reduceAdd, Int.reduceSub, Int.reduceNeg, Int.reduceToNat]
  exact ex_le_refl (by rw [idxBy_pos])
theorem indexFuncB {g : FuncId} {caps : List PV} {p : Nat × Nat → Bool} {l : List (Nat × Nat)} (hz : sz l.length) (hg : ∀ k ∈ l, Ret Tryd.prog g (bothP k :: caps) (boolP (p k))) :
    Ret Tryd.prog 75 [bothsP l, .func g caps] (intP (idxBy p l)) := by
  refine fn_of (T := []) (N := 19) (RO := []) (CH := []) (KS := [0, 1, 4, 5, 7, 8, 9, 16]) (NS := []) (fun args w => Tryd.call75 args w) Tryd.func75 rfl rfl (by simp) mixed (by kernel_rfl) trivial ?_
  simp only [go_sem, ↓reduceIte, Nat.reduceLT, Nat.reduceLeDiff, Nat.reduceEqDiff, Nat.reduceAdd, Nat.reduceSub, Nat.reduceDiv, Nat.reduceMod, Nat.reduceMul, Nat.reduceBEq, Nat.reduceBNe, reduceCtorEq, Int.reduceLT, Int.reduceLE, Int.reduceEq, Int.reduceNe, Int.reduceBEq, Int.reduceBNe, Int.reduceAdd, Int.reduceSub, Int.reduceNeg, Int.reduceToNat]
  refine vfor [0,1,7,8] [] [] l.length (fun k => ∀ j x, j < k → l[j]? = some x → p x = false) (fun k => ⟨[(0,.p (bothsP l)),(1,.p (.func g caps)),(7,.p (natP l.length)),(8,.p (natP k))], []⟩) rfl (by simp) ?_
  intro k hk hI
  by_cases hlt : k < l.length
  · obtain ⟨x, hx⟩ := get_some hlt
    simp only [go_sem, ↓reduceIte, Nat.reduceLT, Nat.reduceLeDiff, Nat.reduceEqDiff, Nat.reduceAdd, Nat.reduceSub, Nat.reduceDiv, Nat.reduceMod, Nat.reduceMul, Nat.reduceBEq, Nat.reduceBNe, reduceCtorEq, Int.reduceLT, Int.reduceLE, Int.reduceEq, Int.reduceNe, Int.reduceBEq, Int.reduceBNe, Int.reduceAdd, Int.reduceSub, Int.reduceNeg, Int.reduceToNat, hlt, lof_getD hx]
    refine vret_pure (hg x (List.mem_of_getElem? hx)) (by simp only [go_sem, ↓reduceIte, Nat.reduceLT, Nat.reduceLeDiff, Nat.reduceEqDiff, Nat.reduceAdd, Nat.reduceSub, Nat.reduceDiv, Nat.reduceMod, Nat.reduceMul, Nat.reduceBEq, Nat.reduceBNe, reduceCtorEq, Int.reduceLT, Int.reduceLE, Int.reduceEq, Int.reduceNe, Int.reduceBEq, Int.reduceBNe, Int.reduceAdd, Int.reduceSub, Int.reduceNeg, Int.reduceToNat]) (LeL.refl _) (by decide) ?_
    by_cases hv : p x = true
    · simp only [go_sem, ↓reduceIte, Nat.reduceLT, Nat.reduceLeDiff, Nat.reduceEqDiff, Nat.reduceAdd, Nat.reduceSub, Nat.reduceDiv, Nat.reduceMod, Nat.reduceMul, Nat.reduceBEq, Nat.reduceBNe, reduceCtorEq, Int.reduceLT, Int.reduceLE, Int.reduceEq, Int.reduceNe, Int.reduceBEq, Int.reduceBNe, Int.reduceAdd, Int.reduceSub, Int.reduceNeg, Int.reduceToNat, hv]
      exact ex_le_refl (by rw [idxBy_hit hI hx hv])
    · rw [Bool.not_eq_true] at hv
      simp only [go_sem, ↓reduceIte, Nat.reduceLT, Nat.reduceLeDiff, Nat.reduceEqDiff, Nat.reduceAdd, Nat.reduceSub, Nat.reduceDiv, Nat.reduceMod, Nat.reduceMul, Nat.reduceBEq, Nat.reduceBNe, reduceCtorEq, Int.reduceLT, Int.reduceLE, Int.reduceEq, Int.reduceNe, Int.reduceBEq, Int.reduceBNe, Int.reduceAdd, Int.reduceSub, Int.reduceNeg, Int.reduceToNat, hv]
      refine ⟨by rw [InK_i64]; omega, hlt, fun j y hj hy => ?_, rfl⟩
      by_cases e : j = k
      · subst e; rw [hx] at hy; cases hy; exact hv
      · exact hI j y (by omega) hy
  · simp only [go_sem, ↓reduceIte, Nat.reduceLT, Nat.reduceLeDiff, Nat.reduceEqDiff, Nat.reduceAdd, Nat.reduceSub, Nat.reduceDiv, Nat.reduceMod, Nat.reduceMul, Nat.reduceBEq, Nat.reduceBNe, reduceCtorEq, Int.reduceLT, Int.reduceLE, Int.reduceEq, Int.reduceNe, Int.reduceBEq, Int.reduceBNe, Int.reduceAdd, Int.reduceSub, Int.reduceNeg, Int.reduceToNat, hlt]
    exact ex_le_refl (by rw [idxBy_none (fun j x hx => hI j x (by have := (List.getElem?_eq_some_iff.1 hx).1; omega) hx)])
theorem containsFuncB {g : FuncId} {caps : List PV} {p : Nat × Nat → Bool} {l : List (Nat × Nat)} (hz : sz l.length) (hg : ∀ k ∈ l, Ret Tryd.prog g (bothP k :: caps) (boolP (p k))) :
    Ret Tryd.prog 64 [bothsP l, .func g caps] (boolP (l.any p)) := by
  refine fn_of (T := []) (N := 9) (RO := []) (CH := []) (KS := [0, 1, 4]) (NS := []) (fun args w => Tryd.call64 args w) Tryd.func64 rfl rfl (by simp) mixed (by kernel_rfl) trivial ?_
  simp only [go_sem, ↓reduceIte, Nat.reduceLT, Nat.reduceLeDiff, Nat.reduceEqDiff, Nat.reduceAdd, Nat.reduceSub, Nat.reduceDiv, Nat.reduceMod, Nat.reduceMul, Nat.reduceBEq, Nat.reduceBNe, reduceCtorEq, Int.reduceLT, Int.reduceLE, Int.reduceEq, Int.reduceNe, Int.reduceBEq, Int.reduceBNe, Int.reduceAdd, Int.reduceSub, Int.reduceNeg, Int.reduceToNat]
  refine vret_pure (indexFuncB hz hg) (by simp only [go_sem, ↓reduceIte, Nat.reduceLT, Nat.reduceLeDiff, Nat.reduceEqDiff, Nat.reduceAdd, Nat.reduceSub, Nat.reduceDiv, Nat.reduceMod, Nat.reduceMul, Nat.reduceBEq, Nat.reduceBNe, reduceCtorEq, Int.reduceLT, Int.reduceLE, Int.reduceEq, Int.reduceNe, Int.reduceBEq, Int.reduceBNe, Int.reduceAdd, Int.reduceSub, Int.reduceNeg, Int.reduceToNat]) (LeL.refl _) (by decide) ?_
  simp only [go_sem, ↓reduceIte, Nat.reduceLT, Nat.reduceLeDiff, Nat.reduceEqDiff, Nat.reduceAdd, Nat.reduceSub, Nat.reduceDiv, Nat.reduceMod, Nat.reduceMul, Nat.reduceBEq, Nat.reduceBNe, reduceCtorEq, Int.reduceLT, Int.reduceLE, Int.reduceEq, Int.reduceNe, Int.reduceBEq, Int.reduceBNe, Int.reduceAdd, Int.reduceSub, Int.reduceNeg, Int.reduceToNat]
  exact ex_le_refl (by rw [idxBy_pos])

/-- the element that MinFunc returns: the first one of which none is smaller by the comparison -/
theorem minFuncF {g : FuncId} {caps : List PV} {c : Nat → Nat → Int} {l : List Nat} {x0 : Nat} (hz : sz l.length) (hl : l[0]? = some x0) (hg : ∀ x ∈ l, ∀ y ∈ l, Ret Tryd.prog g (u8P x :: u8P y :: caps) (intP (c x y))) :
    Ret Tryd.prog 59 [factsP l, .func g caps] (u8P ((l.drop 1).foldl (fun m x => if c x m < 0 then x else m) x0)) := by
  refine fn_of (T := []) (N := 33) (RO := []) (CH := []) (KS := [0, 1, 4, 5, 6, 9, 17, 27]) (NS := []) (fun args w => Tryd.call59 args w) Tryd.func59 rfl rfl (by simp) mixed (by kernel_rfl) trivial ?_
  have hpos : 0 < l.length := (List.getElem?_eq_some_iff.1 hl).1
  simp only [go_sem, ↓reduceIte, Nat.reduceLT, Nat.reduceLeDiff, Nat.reduceEqDiff, Nat.reduceAdd, Nat.reduceSub, Nat.reduceDiv, Nat.reduceMod, Nat.reduceMul, Nat.reduceBEq, Nat.reduceBNe, reduceCtorEq, Int.reduceLT, Int.reduceLE, Int.reduceEq, Int.reduceNe, Int.reduceBEq, Int.reduceBNe, Int.reduceAdd, Int.reduceSub, Int.reduceNeg, Int.reduceToNat, show ¬ ((l.length : Int) < 1) by omega, lof_getD hl, show (0 : Int) < (l.length : Int) by omega, hpos]
  refine vwhile [0,1,5,6] [] [] (fun d : Nat × Nat => 1 ≤ d.1 ∧ d.1 ≤ l.length ∧ d.2 ∈ l ∧ (l.drop 1).foldl (fun m x => if c x m < 0 then x else m) x0 = (l.drop d.1).foldl (fun m x => if c x m < 0 then x else m) d.2) (fun d => l.length - d.1)
    (fun d => ⟨[(0,.p (factsP l)),(1,.p (.func g caps)),(5,.p (u8P d.2)),(6,.p (natP d.1))], []⟩) (1, x0) (by first | rfl | (simp only [go_sem, ↓reduceIte, Nat.reduceLT, Nat.reduceLeDiff, Nat.reduceEqDiff, Nat.reduceAdd, Nat.reduceSub, Nat.reduceDiv, Nat.reduceMod, Nat.reduceMul, Nat.reduceBEq, Nat.reduceBNe, reduceCtorEq, Int.reduceLT, Int.reduceLE, Int.reduceEq, Int.reduceNe, Int.reduceBEq, Int.reduceBNe, Int.reduceAdd, Int.reduceSub, Int.reduceNeg, Int.reduceToNat]; first | done | rfl)) ⟨by simp, by simp only; omega, List.mem_of_getElem? hl, rfl⟩ ?_
  rintro ⟨k, m⟩ ⟨hk1, hk, hm, hI⟩
  simp only at hk1 hk hm hI
  by_cases hlt : k < l.length
  · obtain ⟨x, hx⟩ := get_some hlt
    have hd : l.drop k = x :: l.drop (k + 1) := by rw [List.drop_eq_getElem_cons hlt]; simp [List.getElem?_eq_getElem hlt] at hx; rw [hx]
    rw [hd, List.foldl_cons] at hI
    simp only [go_sem, ↓reduceIte, Nat.reduceLT, Nat.reduceLeDiff, Nat.reduceEqDiff, Nat.reduceAdd, Nat.reduceSub, Nat.reduceDiv, Nat.reduceMod, Nat.reduceMul, Nat.reduceBEq, Nat.reduceBNe, reduceCtorEq, Int.reduceLT, Int.reduceLE, Int.reduceEq, Int.reduceNe, Int.reduceBEq, Int.reduceBNe, Int.reduceAdd, Int.reduceSub, Int.reduceNeg, Int.reduceToNat, hlt, lof_getD hx]
    refine vret_pure (hg x (List.mem_of_getElem? hx) m hm) (by simp only [go_sem, ↓reduceIte, Nat.reduceLT, Nat.reduceLeDiff, Nat.reduceEqDiff, Nat.reduceAdd, Nat.reduceSub, Nat.reduceDiv, Nat.reduceMod, Nat.reduceMul, Nat.reduceBEq, Nat.reduceBNe, reduceCtorEq, Int.reduceLT, Int.reduceLE, Int.reduceEq, Int.reduceNe, Int.reduceBEq, Int.reduceBNe, Int.reduceAdd, Int.reduceSub, Int.reduceNeg, Int.reduceToNat]) (LeL.refl _) (by decide) ?_
    by_cases hv : c x m < 0
    · rw [if_pos hv] at hI
      simp only [go_sem, ↓reduceIte, Nat.reduceLT, Nat.reduceLeDiff, Nat.reduceEqDiff, Nat.reduceAdd, Nat.reduceSub, Nat.reduceDiv, Nat.reduceMod, Nat.reduceMul, Nat.reduceBEq, Nat.reduceBNe, reduceCtorEq, Int.reduceLT, Int.reduceLE, Int.reduceEq, Int.reduceNe, Int.reduceBEq, Int.reduceBNe, Int.reduceAdd, Int.reduceSub, Int.reduceNeg, Int.reduceToNat, hv, hlt, lof_getD hx]
      exact ⟨by rw [InK_i64]; omega, (k + 1, x), by simp only; omega, ⟨by simp only; omega, by simp only; omega, List.mem_of_getElem? hx, hI⟩, rfl⟩
    · rw [if_neg hv] at hI
      simp only [go_sem, ↓reduceIte, Nat.reduceLT, Nat.reduceLeDiff, Nat.reduceEqDiff, Nat.reduceAdd, Nat.reduceSub, Nat.reduceDiv, Nat.reduceMod, Nat.reduceMul, Nat.reduceBEq, Nat.reduceBNe, reduceCtorEq, Int.reduceLT, Int.reduceLE, Int.reduceEq, Int.reduceNe, Int.reduceBEq, Int.reduceBNe, Int.reduceAdd, Int.reduceSub, Int.reduceNeg, Int.reduceToNat, hv, hlt, lof_getD hx]
      exact ⟨by rw [InK_i64]; omega, (k + 1, m), by simp only; omega, ⟨by simp only; omega, by simp only; omega, hm, hI⟩, rfl⟩
  · simp only [go_sem, ↓reduceIte, Nat.reduceLT, Nat.reduceLeDiff, Nat.reduceEqDiff, Nat.reduceAdd, Nat.reduceSub, Nat.reduceDiv, Nat.reduceMod, Nat.reduceMul, Nat.reduceBEq, Nat.reduceBNe, reduceCtorEq, Int.reduceLT, Int.reduceLE, Int.reduceEq, Int.reduceNe, Int.reduceBEq, Int.reduceBNe, Int.reduceAdd, Int.reduceSub, Int.reduceNeg, Int.reduceToNat, hlt]
    have hd : l.drop k = [] := List.drop_of_length_le (by omega)
    rw [hd] at hI
    exact ex_le_refl (by rw [hI]; rfl)

theorem isNaN_spec (x : Int) (hpre : True) : Ret Tryd.prog 86 [intP x] (boolP false) := by
  refine fn_of (T := []) (N := 6) (RO := []) (CH := []) (KS := [0, 2]) (NS := []) (fun args w => Tryd.call86 args w) Tryd.func86 rfl rfl (by simp) mixed (by kernel_rfl) trivial ?_
  simp only [go_sem, ↓reduceIte, Nat.reduceLT, Nat.reduceLeDiff, Nat.reduceEqDiff, Nat.reduceAdd, Nat.reduceSub, Nat.reduceDiv, Nat.reduceMod, Nat.reduceMul, Nat.reduceBEq, Nat.reduceBNe, reduceCtorEq, Int.reduceLT, Int.reduceLE, Int.reduceEq, Int.reduceNe, Int.reduceBEq, Int.reduceBNe, Int.reduceAdd, Int.reduceSub, Int.reduceNeg, Int.reduceToNat]
  exact ex_le_refl (by simp)
noncomputable def tab_isNaN : Tab := tabOf (fun p : (Int) => match p with | x => [intP x]) (fun p : (Int) => match p with | x => True) (fun p : (Int) => match p with | x => boolP false)
theorem tab_isNaN_eq (x : Int) : tab_isNaN [intP x] = some (True, .p (boolP false)) := tabOf_eq (enc := fun p : (Int) => match p with | x => [intP x]) (pre := fun p : (Int) => match p with | x => True) (out := fun p : (Int) => match p with | x => boolP false) (by rintro x x' h; simp at h; first | (simp [h]; done) | omega | (simp [h]; omega)) (x)
theorem tab_isNaN_ok : TabOK Tryd.prog 86 tab_isNaN := tabOf_ok (by rintro x h; exact isNaN_spec x h)
noncomputable abbrev ent_isNaN : FuncId × List Nat × Tab := (86, [], tab_isNaN)
attribute [go_sem] tab_isNaN_eq

theorem cmpII_spec (x : Int) (y : Int) (hpre : True) : Ret Tryd.prog 68 [intP x, intP y] (intP (cmpI x y)) := by
  refine fn_of (T := [ent_isNaN]) (N := 20) (RO := []) (CH := []) (KS := [0, 1, 4, 5, 6, 11, 12, 13, 16, 19]) (NS := []) (fun args w => Tryd.call68 args w) Tryd.func68 rfl rfl (by simp) mixed (by kernel_rfl) ⟨tab_isNaN_ok, trivial⟩ ?_
  simp only [go_sem, ↓reduceIte, Nat.reduceLT, Nat.reduceLeDiff, Nat.reduceEqDiff, Nat.reduceAdd, Nat.reduceSub, Nat.reduceDiv, Nat.reduceMod, Nat.reduceMul, Nat.reduceBEq, Nat.reduceBNe, reduceCtorEq, Int.reduceLT, Int.reduceLE, Int.reduceEq, Int.reduceNe, Int.reduceBEq, Int.reduceBNe, Int.reduceAdd, Int.reduceSub, Int.reduceNeg, Int.reduceToNat]
  by_cases h1 : x < y
  · simp only [go_sem, ↓reduceIte, Nat.reduceLT, Nat.reduceLeDiff, Nat.reduceEqDiff, Nat.reduceAdd, Nat.reduceSub, Nat.reduceDiv, Nat.reduceMod, Nat.reduceMul, Nat.reduceBEq, Nat.reduceBNe, reduceCtorEq, Int.reduceLT, Int.reduceLE, Int.reduceEq, Int.reduceNe, Int.reduceBEq, Int.reduceBNe, Int.reduceAdd, Int.reduceSub, Int.reduceNeg, Int.reduceToNat, h1]
    exact ex_le_refl (by simp [cmpI, h1])
  · by_cases h2 : y < x
    · simp only [go_sem, ↓reduceIte, Nat.reduceLT, Nat.reduceLeDiff, Nat.reduceEqDiff, Nat.reduceAdd, Nat.reduceSub, Nat.reduceDiv, Nat.reduceMod, Nat.reduceMul, Nat.reduceBEq, Nat.reduceBNe, reduceCtorEq, Int.reduceLT, Int.reduceLE, Int.reduceEq, Int.reduceNe, Int.reduceBEq, Int.reduceBNe, Int.reduceAdd, Int.reduceSub, Int.reduceNeg, Int.reduceToNat, h1, h2]
      exact ex_le_refl (by simp [cmpI, h1, h2])
    · simp only [go_sem, ↓reduceIte, Nat.reduceLT, Nat.reduceLeDiff, Nat.reduceEqDiff, Nat.reduceAdd, Nat.reduceSub, Nat.reduceDiv, Nat.reduceMod, Nat.reduceMul, Nat.reduceBEq, Nat.reduceBNe, reduceCtorEq, Int.reduceLT, Int.reduceLE, Int.reduceEq, Int.reduceNe, Int.reduceBEq, Int.reduceBNe, Int.reduceAdd, Int.reduceSub, Int.reduceNeg, Int.reduceToNat, h1, h2]
      exact ex_le_refl (by simp [cmpI, h1, h2])
noncomputable def tab_cmpII : Tab := tabOf (fun p : (Int) × (Int) => match p with | (x, y) => [intP x, intP y]) (fun p : (Int) × (Int) => match p with | (x, y) => True) (fun p : (Int) × (Int) => match p with | (x, y) => intP (cmpI x y))
theorem tab_cmpII_eq (x : Int) (y : Int) : tab_cmpII [intP x, intP y] = some (True, .p (intP (cmpI x y))) := tabOf_eq (enc := fun p : (Int) × (Int) => match p with | (x, y) => [intP x, intP y]) (pre := fun p : (Int) × (Int) => match p with | (x, y) => True) (out := fun p : (Int) × (Int) => match p with | (x, y) => intP (cmpI x y)) (by rintro ⟨x, y⟩ ⟨x', y'⟩ h; simp at h; first | (simp [h]; done) | omega | (simp [h]; omega)) (x, y)
theorem tab_cmpII_ok : TabOK Tryd.prog 68 tab_cmpII := tabOf_ok (by rintro ⟨x, y⟩ h; exact cmpII_spec x y h)
noncomputable abbrev ent_cmpII : FuncId × List Nat × Tab := (68, [], tab_cmpII)
attribute [go_sem] tab_cmpII_eq

theorem cmpLL_spec (a : List Int) (b : List Int) (hpre : sz a.length ∧ sz b.length) : Ret Tryd.prog 48 [ints a, ints b] (intP (cmpL a b)) := by
  refine fn_of (T := [ent_cmpII]) (N := 36) (RO := []) (CH := []) (KS := [0, 1, 4, 5, 6, 7, 8, 9, 10, 11, 12, 19, 28, 35]) (NS := []) (fun args w => Tryd.call48 args w) Tryd.func48 rfl rfl (by simp) mixed (by kernel_rfl) ⟨tab_cmpII_ok, trivial⟩ ?_
  simp only [go_sem, ↓reduceIte, Nat.reduceLT, Nat.reduceLeDiff, Nat.reduceEqDiff, Nat.reduceAdd, Nat.reduceSub, Nat.reduceDiv, Nat.reduceMod, Nat.reduceMul, Nat.reduceBEq, Nat.reduceBNe, reduceCtorEq, Int.reduceLT, Int.reduceLE, Int.reduceEq, Int.reduceNe, Int.reduceBEq, Int.reduceBNe, Int.reduceAdd, Int.reduceSub, Int.reduceNeg, Int.reduceToNat]
  refine vfor [0,1,9,10,11] [] [] a.length (fun k => k ≤ b.length ∧ cmpL a b = cmpL (a.drop k) (b.drop k)) (fun k => ⟨[(0,.p (ints a)),(1,.p (ints b)),(9,.p (ints a)),(10,.p (natP a.length)),(11,.p (natP k))], []⟩) rfl ⟨by simp, rfl⟩ ?_
  rintro k hk ⟨hkb, hI⟩
  by_cases hlt : k < a.length
  · obtain ⟨x, hx⟩ := get_some hlt
    have hda : a.drop k = x :: a.drop (k + 1) := by rw [List.drop_eq_getElem_cons hlt]; simp [List.getElem?_eq_getElem hlt] at hx; rw [hx]
    by_cases hb : b.length ≤ k
    · simp only [go_sem, ↓reduceIte, Nat.reduceLT, Nat.reduceLeDiff, Nat.reduceEqDiff, Nat.reduceAdd, Nat.reduceSub, Nat.reduceDiv, Nat.reduceMod, Nat.reduceMul, Nat.reduceBEq, Nat.reduceBNe, reduceCtorEq, Int.reduceLT, Int.reduceLE, Int.reduceEq, Int.reduceNe, Int.reduceBEq, Int.reduceBNe, Int.reduceAdd, Int.reduceSub, Int.reduceNeg, Int.reduceToNat, hlt, lof_getD hx, hb]
      have hdb : b.drop k = [] := List.drop_of_length_le (by omega)
      rw [hda, hdb] at hI
      exact ex_le_refl (by rw [hI]; rfl)
    · obtain ⟨y, hy⟩ := get_some (show k < b.length by omega)
      have hdb : b.drop k = y :: b.drop (k + 1) := by rw [List.drop_eq_getElem_cons (by omega)]; simp [List.getElem?_eq_getElem (show k < b.length by omega)] at hy; rw [hy]
      rw [hda, hdb, cmpL_cons] at hI
      have hkb' : k < b.length := by omega
      by_cases hc : cmpI x y = 0
      · rw [if_neg (by simp [hc])] at hI
        simp only [go_sem, ↓reduceIte, Nat.reduceLT, Nat.reduceLeDiff, Nat.reduceEqDiff, Nat.reduceAdd, Nat.reduceSub, Nat.reduceDiv, Nat.reduceMod, Nat.reduceMul, Nat.reduceBEq, Nat.reduceBNe, reduceCtorEq, Int.reduceLT, Int.reduceLE, Int.reduceEq, Int.reduceNe, Int.reduceBEq, Int.reduceBNe, Int.reduceAdd, Int.reduceSub, Int.reduceNeg, Int.reduceToNat, hlt, lof_getD hx, hb, lof_getD hy, hc, hkb']
        (repeat' (first | assumption | (rw [InK_i64]; omega) | (rw [InK_u8]; omega) | (rw [InK_u64]; omega) | omega | rfl | apply And.intro))
      · rw [if_pos hc] at hI
        simp only [go_sem, ↓reduceIte, Nat.reduceLT, Nat.reduceLeDiff, Nat.reduceEqDiff, Nat.reduceAdd, Nat.reduceSub, Nat.reduceDiv, Nat.reduceMod, Nat.reduceMul, Nat.reduceBEq, Nat.reduceBNe, reduceCtorEq, Int.reduceLT, Int.reduceLE, Int.reduceEq, Int.reduceNe, Int.reduceBEq, Int.reduceBNe, Int.reduceAdd, Int.reduceSub, Int.reduceNeg, Int.reduceToNat, hlt, lof_getD hx, hb, lof_getD hy, hkb', show (cmpI x y != 0) = true by simp [hc]]
        exact ex_le_refl (by rw [hI])
  · have hda : a.drop k = [] := List.drop_of_length_le (by omega)
    obtain rfl : k = a.length := by omega
    rw [hda, cmpL_nil] at hI
    by_cases hb : (a.length : Int) < b.length
    · simp only [go_sem, ↓reduceIte, Nat.reduceLT, Nat.reduceLeDiff, Nat.reduceEqDiff, Nat.reduceAdd, Nat.reduceSub, Nat.reduceDiv, Nat.reduceMod, Nat.reduceMul, Nat.reduceBEq, Nat.reduceBNe, reduceCtorEq, Int.reduceLT, Int.reduceLE, Int.reduceEq, Int.reduceNe, Int.reduceBEq, Int.reduceBNe, Int.reduceAdd, Int.reduceSub, Int.reduceNeg, Int.reduceToNat, hlt, hb]
      exact ex_le_refl (by rw [hI, if_neg (by intro e; have := congrArg List.length e; simp at this; omega)])
    · simp only [go_sem, ↓reduceIte, Nat.reduceLT, Nat.reduceLeDiff, Nat.reduceEqDiff, Nat.reduceAdd, Nat.reduceSub, Nat.reduceDiv, Nat.reduceMod, Nat.reduceMul, Nat.reduceBEq, Nat.reduceBNe, reduceCtorEq, Int.reduceLT, Int.reduceLE, Int.reduceEq, Int.reduceNe, Int.reduceBEq, Int.reduceBNe, Int.reduceAdd, Int.reduceSub, Int.reduceNeg, Int.reduceToNat, hlt, hb]
      exact ex_le_refl (by rw [hI, if_pos (List.drop_of_length_le (by omega))])
noncomputable def tab_cmpLL : Tab := tabOf (fun p : (List Int) × (List Int) => match p with | (a, b) => [ints a, ints b]) (fun p : (List Int) × (List Int) => match p with | (a, b) => sz a.length ∧ sz b.length) (fun p : (List Int) × (List Int) => match p with | (a, b) => intP (cmpL a b))
theorem tab_cmpLL_eq (a : List Int) (b : List Int) : tab_cmpLL [ints a, ints b] = some (sz a.length ∧ sz b.length, .p (intP (cmpL a b))) := tabOf_eq (enc := fun p : (List Int) × (List Int) => match p with | (a, b) => [ints a, ints b]) (pre := fun p : (List Int) × (List Int) => match p with | (a, b) => sz a.length ∧ sz b.length) (out := fun p : (List Int) × (List Int) => match p with | (a, b) => intP (cmpL a b)) (by rintro ⟨a, b⟩ ⟨a', b'⟩ h; simp at h; first | (simp [h]; done) | omega | (simp [h]; omega)) (a, b)
theorem tab_cmpLL_ok : TabOK Tryd.prog 48 tab_cmpLL := tabOf_ok (by rintro ⟨a, b⟩ h; exact cmpLL_spec a b h)
noncomputable abbrev ent_cmpLL : FuncId × List Nat × Tab := (48, [1, 1], tab_cmpLL)
attribute [go_sem] tab_cmpLL_eq

theorem clone_spec (l : List Int) (hpre : sz l.length) : RetR Tryd.prog 57 [ints l] (.vec 3 1 (lof intP l)) := by
  refine fnV_of (T := []) (N := 8) (RO := []) (CH := []) (KS := [0, 2, 4]) (NS := [2, 5, 7]) (fun args w => Tryd.call57 args w) Tryd.func57 rfl rfl (by simp) mixed (by kernel_rfl) trivial ?_
  simp only [go_sem, ↓reduceIte, Nat.reduceLT, Nat.reduceLeDiff, Nat.reduceEqDiff, Nat.reduceAdd, Nat.reduceSub, Nat.reduceDiv, Nat.reduceMod, Nat.reduceMul, Nat.reduceBEq, Nat.reduceBNe, reduceCtorEq, Int.reduceLT, Int.reduceLE, Int.reduceEq, Int.reduceNe, Int.reduceBEq, Int.reduceBNe, Int.reduceAdd, Int.reduceSub, Int.reduceNeg, Int.reduceToNat]
  intro t ht
  cases t with
  | true =>
    have : l = [] := Classical.not_not.1 fun h => by have := ht (by simpa [lof] using h); cases this
    subst this
    simp only [go_sem, ↓reduceIte, Nat.reduceLT, Nat.reduceLeDiff, Nat.reduceEqDiff, Nat.reduceAdd, Nat.reduceSub, Nat.reduceDiv, Nat.reduceMod, Nat.reduceMul, Nat.reduceBEq, Nat.reduceBNe, reduceCtorEq, Int.reduceLT, Int.reduceLE, Int.reduceEq, Int.reduceNe, Int.reduceBEq, Int.reduceBNe, Int.reduceAdd, Int.reduceSub, Int.reduceNeg, Int.reduceToNat]
    exact ⟨rfl, 3, 1, rfl, rfl, rfl⟩
  | false =>
    simp only [go_sem, ↓reduceIte, Nat.reduceLT, Nat.reduceLeDiff, Nat.reduceEqDiff, Nat.reduceAdd, Nat.reduceSub, Nat.reduceDiv, Nat.reduceMod, Nat.reduceMul, Nat.reduceBEq, Nat.reduceBNe, reduceCtorEq, Int.reduceLT, Int.reduceLE, Int.reduceEq, Int.reduceNe, Int.reduceBEq, Int.reduceBNe, Int.reduceAdd, Int.reduceSub, Int.reduceNeg, Int.reduceToNat]
    exact Nat.le_trans hpre (by decide)
noncomputable def tab_clone : Tab := tabR (fun l : List Int => [ints l]) (fun l => sz l.length) (fun l => .vec 3 1 (lof intP l))
theorem tab_clone_eq (l : List Int) : tab_clone [ints l] = some (sz l.length, .vec 3 1 (lof intP l)) := tabR_eq (enc := fun l : List Int => [ints l]) (pre := fun l => sz l.length) (out := fun l => .vec 3 1 (lof intP l)) (by intro a b h; simpa using h) l
theorem tab_clone_ok : TabOK Tryd.prog 57 tab_clone := tabR_ok (fun l h => clone_spec l h)
noncomputable abbrev ent_clone : FuncId × List Nat × Tab := (57, [1], tab_clone)
attribute [go_sem] tab_clone_eq

theorem shr_and (x k m : Nat) (hx : x < 4294967296) (hm : m < 18446744073709551616) : bits .and .u64 ((x : Int) / 2 ^ k) (m : Int) = (((x / 2 ^ k) &&& m : Nat) : Int) := by
  rw [show ((x : Int) / 2 ^ k) = ((x / 2 ^ k : Nat) : Int) by simp]
  exact bits_and64 (Nat.lt_of_le_of_lt (Nat.div_le_self _ _) (by omega)) hm
def oa1 (f : Nat) : Nat := (f / 2 ^ 1 &&& 6148914691236517205) + (f &&& 6148914691236517205)
def oa2 (f : Nat) : Nat := (f / 2 ^ 2 &&& 3689348814741910323) + (f &&& 3689348814741910323)
def oa3 (f : Nat) : Nat := (f / 2 ^ 4 + f) &&& 1085102592571150095
def oa4 (k f : Nat) : Nat := f + f / 2 ^ k
theorem oa1_eq {f : Nat} (hf : f < 256) : bits .and .u64 ((f : Int) / 2 ^ 1) 6148914691236517205 + bits .and .u64 (f : Int) 6148914691236517205 = ((oa1 f : Nat) : Int) := by
  have h1 := shr_and f 1 6148914691236517205 (by omega) (by decide)
  have h2 : bits .and .u64 (f : Int) ((6148914691236517205 : Nat) : Int) = _ := bits_and64 (show f < 18446744073709551616 by omega) (by decide)
  unfold oa1
  rw [Int.natCast_add, ← h1, ← h2]; rfl
theorem oa1_lt {f : Nat} (hf : f < 256) : oa1 f < 512 := by
  unfold oa1
  have := (Nat.and_le_left : (f / 2 ^ 1) &&& 6148914691236517205 ≤ f / 2 ^ 1)
  have := (Nat.and_le_left : f &&& 6148914691236517205 ≤ f)
  omega
theorem oa2_eq {f : Nat} (hf : f < 512) : bits .and .u64 ((f : Int) / 2 ^ 2) 3689348814741910323 + bits .and .u64 (f : Int) 3689348814741910323 = ((oa2 f : Nat) : Int) := by
  have h1 := shr_and f 2 3689348814741910323 (by omega) (by decide)
  have h2 : bits .and .u64 (f : Int) ((3689348814741910323 : Nat) : Int) = _ := bits_and64 (show f < 18446744073709551616 by omega) (by decide)
  unfold oa2
  rw [Int.natCast_add, ← h1, ← h2]; rfl
theorem oa2_lt {f : Nat} (hf : f < 512) : oa2 f < 1024 := by
  unfold oa2
  have := (Nat.and_le_left : (f / 2 ^ 2) &&& 3689348814741910323 ≤ f / 2 ^ 2)
  have := (Nat.and_le_left : f &&& 3689348814741910323 ≤ f)
  omega
theorem oa3_eq {f : Nat} (hf : f < 1024) : bits .and .u64 ((f : Int) / 2 ^ 4 + (f : Int)) 1085102592571150095 = ((oa3 f : Nat) : Int) := by
  rw [show ((f : Int) / 2 ^ 4 + (f : Int)) = ((f / 2 ^ 4 + f : Nat) : Int) by simp]
  exact bits_and64 (by omega) (by decide)
theorem oa3_lt {f : Nat} (hf : f < 1024) : oa3 f < 2048 := by
  unfold oa3
  have := (Nat.and_le_left : (f / 2 ^ 4 + f) &&& 1085102592571150095 ≤ f / 2 ^ 4 + f)
  omega
theorem oa4_eq (k f : Nat) : (f : Int) + (f : Int) / 2 ^ k = ((oa4 k f : Nat) : Int) := by simp [oa4]
theorem oa4_lt {k f n : Nat} (h : f < n) : oa4 k f < 2 * n := by
  unfold oa4
  have := Nat.div_le_self f (2 ^ k)
  omega
theorem oa_all : ∀ f < 256, oa4 32 (oa4 16 (oa4 8 (oa3 (oa2 (oa1 f))))) % 128 = R6.oc8 f := by decide +kernel

theorem oc64_spec (f : Nat) (hpre : f < 256) : Ret Tryd.prog 74 [u64P f] (natP (R6.oc8 f)) := by
  refine fn_of (T := []) (N := 35) (RO := []) (CH := []) (KS := [0, 2]) (NS := []) (fun args w => Tryd.call74 args w) Tryd.func74 rfl rfl (by simp) mixed (by kernel_rfl) trivial ?_
  simp only [go_sem, ↓reduceIte, Nat.reduceLT, Nat.reduceLeDiff, Nat.reduceEqDiff, Nat.reduceAdd, Nat.reduceSub, Nat.reduceDiv, Nat.reduceMod, Nat.reduceMul, Nat.reduceBEq, Nat.reduceBNe, reduceCtorEq, Int.reduceLT, Int.reduceLE, Int.reduceEq, Int.reduceNe, Int.reduceBEq, Int.reduceBNe, Int.reduceAdd, Int.reduceSub, Int.reduceNeg, Int.reduceToNat]
  have b1 := oa1_lt hpre
  have b2 := oa2_lt b1
  have b3 := oa3_lt b2
  have b4 := oa4_lt (k := 8) b3
  have b5 := oa4_lt (k := 16) b4
  have b6 := oa4_lt (k := 32) b5
  have hA := oa_all f hpre
  simp only [oa1_eq hpre, oa2_eq b1, oa3_eq b2, oa4_eq]
  generalize oa1 f = x1 at *
  generalize oa2 x1 = x2 at *
  generalize oa3 x2 = x3 at *
  generalize oa4 8 x3 = x4 at *
  generalize oa4 16 x4 = x5 at *
  generalize oa4 32 x5 = x6 at *
  have e64 : IntKind.bits .u64 = 64 := rfl
  refine ⟨by omega, by rw [InK_u64]; omega, by omega, by rw [InK_u64]; omega, by omega, by rw [InK_u64]; omega, by omega, by rw [InK_u64]; omega, by omega, by rw [InK_u64]; omega, by omega, by rw [InK_u64]; omega, by rw [InK_i64]; omega, ex_le_refl (congrArg (fun n : Int => intP n) ?_)⟩
  rw [i64_and127]; omega
noncomputable def tab_oc64 : Tab := tabOf (fun p : (Nat) => match p with | f => [u64P f]) (fun p : (Nat) => match p with | f => f < 256) (fun p : (Nat) => match p with | f => natP (R6.oc8 f))
theorem tab_oc64_eq (f : Nat) : tab_oc64 [u64P f] = some (f < 256, .p (natP (R6.oc8 f))) := tabOf_eq (enc := fun p : (Nat) => match p with | f => [u64P f]) (pre := fun p : (Nat) => match p with | f => f < 256) (out := fun p : (Nat) => match p with | f => natP (R6.oc8 f)) (by rintro f f' h; simp at h; first | (simp [h]; done) | omega | (simp [h]; omega)) (f)
theorem tab_oc64_ok : TabOK Tryd.prog 74 tab_oc64 := tabOf_ok (by rintro f h; exact oc64_spec f h)
noncomputable abbrev ent_oc64 : FuncId × List Nat × Tab := (74, [], tab_oc64)
attribute [go_sem] tab_oc64_eq

theorem oc_spec (f : Nat) (hpre : f < 256) : Ret Tryd.prog 63 [u64P f] (natP (R6.oc8 f)) := by
  refine fn_of (T := [ent_oc64]) (N := 8) (RO := []) (CH := []) (KS := [0, 2]) (NS := []) (fun args w => Tryd.call63 args w) Tryd.func63 rfl rfl (by simp) mixed (by kernel_rfl) ⟨tab_oc64_ok, trivial⟩ ?_
  simp only [go_sem, ↓reduceIte, Nat.reduceLT, Nat.reduceLeDiff, Nat.reduceEqDiff, Nat.reduceAdd, Nat.reduceSub, Nat.reduceDiv, Nat.reduceMod, Nat.reduceMul, Nat.reduceBEq, Nat.reduceBNe, reduceCtorEq, Int.reduceLT, Int.reduceLE, Int.reduceEq, Int.reduceNe, Int.reduceBEq, Int.reduceBNe, Int.reduceAdd, Int.reduceSub, Int.reduceNeg, Int.reduceToNat]
  exact ⟨hpre, ex_le_refl rfl⟩
noncomputable def tab_oc : Tab := tabOf (fun p : (Nat) => match p with | f => [u64P f]) (fun p : (Nat) => match p with | f => f < 256) (fun p : (Nat) => match p with | f => natP (R6.oc8 f))
theorem tab_oc_eq (f : Nat) : tab_oc [u64P f] = some (f < 256, .p (natP (R6.oc8 f))) := tabOf_eq (enc := fun p : (Nat) => match p with | f => [u64P f]) (pre := fun p : (Nat) => match p with | f => f < 256) (out := fun p : (Nat) => match p with | f => natP (R6.oc8 f)) (by rintro f f' h; simp at h; first | (simp [h]; done) | omega | (simp [h]; omega)) (f)
theorem tab_oc_ok : TabOK Tryd.prog 63 tab_oc := tabOf_ok (by rintro f h; exact oc_spec f h)
noncomputable abbrev ent_oc : FuncId × List Nat × Tab := (63, [], tab_oc)
attribute [go_sem] tab_oc_eq
end Go.V
