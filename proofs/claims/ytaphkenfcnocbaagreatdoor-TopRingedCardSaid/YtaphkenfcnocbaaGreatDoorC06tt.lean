/-
  Contracts of functions of Go's library. Conditions: none.
-/
import Derived.Test.YtaphkenfcnocbaaGreatDoorC06st
import Derived.Test.YtaphkenfcnocbaaGreatDoorD2e
import Derived.Test.YtaphkenfcnocbaaGreatDoorE1c
import Derived.Test.YtaphkenfcnocbaaGreatDoorP6l
import Derived.Laws.Bits128
set_option linter.unusedVariables false
set_option linter.unusedSimpArgs false
set_option linter.deprecated false
namespace Go.V
open Go.Proofs
set_option maxRecDepth 10000
set_option maxHeartbeats 1000000

instance (k : IntKind) (n : Int) : Decidable (InK k n) := inferInstanceAs (Decidable (_ ∧ _))
abbrev factsP (l : List Nat) : PV := .list .any 1 (lof u8P l)
abbrev bothP (s : Nat × Nat) : PV := .agg [u8P s.1, u8P s.2]
abbrev bothsP (l : List (Nat × Nat)) : PV := .list .any 2 (lof bothP l)
@[simp] theorem lof_bothP_inj {l l' : List (Nat × Nat)} : lof bothP l = lof bothP l' ↔ l = l' := lof_inj (by rintro ⟨a, b⟩ ⟨d, e⟩ h; simp at h; simp; omega)
attribute [go_sem] pvs_map
@[go_sem] theorem facts_snoc (l : List Nat) (x : Nat) : lof u8P l ++ [.val (.int .u8 (x : Int))] = lof u8P (l ++ [x]) := by simp [lof]
@[go_sem] theorem boths_snoc (l : List (Nat × Nat)) (a b : Nat) : lof bothP l ++ [.agg [.val (.int .u8 (a : Int)), .val (.int .u8 (b : Int))]] = lof bothP (l ++ [(a, b)]) := by simp [lof]





theorem indexFuncB {g : FuncId} {caps : List PV} {p : Nat × Nat → Bool} {l : List (Nat × Nat)} (hz : sz l.length) (hg : ∀ k ∈ l, Ret Tryz.prog g (bothP k :: caps) (boolP (p k))) :
    Ret Tryz.prog 111 [bothsP l, .func g caps] (intP (idxBy p l)) := by
  refine fn_of (T := []) (N := 19) (RO := []) (CH := []) (KS := [0, 1, 4, 5, 7, 8, 9, 16]) (NS := []) (fun args w => Tryz.call111 args w) Tryz.func111 rfl rfl (by simp) mixed (by kernel_rfl) trivial ?_
  simp only [go_sem]
  refine vfor [0,1,7,8] [] [] l.length (fun k => ∀ j x, j < k → l[j]? = some x → p x = false) (fun k => ⟨[(0,.p (bothsP l)),(1,.p (.func g caps)),(7,.p (natP l.length)),(8,.p (natP k))], []⟩) rfl (by simp) ?_
  intro k hk hI
  by_cases hlt : k < l.length
  · obtain ⟨x, hx⟩ := get_some hlt
    simp only [go_sem, hlt, lof_getD hx]
    refine vret_pure (hg x (List.mem_of_getElem? hx)) (by simp only [go_sem]) (LeL.refl _) (by decide) ?_
    by_cases hv : p x = true
    · simp only [go_sem, hv]
      exact ex_le_refl (by rw [idxBy_hit hI hx hv])
    · rw [Bool.not_eq_true] at hv
      simp only [go_sem, hv]
      refine ⟨by rw [InK_i64]; omega, hlt, fun j y hj hy => ?_, rfl⟩
      by_cases e : j = k
      · subst e; rw [hx] at hy; cases hy; exact hv
      · exact hI j y (by omega) hy
  · simp only [go_sem, hlt]
    exact ex_le_refl (by rw [idxBy_none (fun j x hx => hI j x (by have := (List.getElem?_eq_some_iff.1 hx).1; omega) hx)])
theorem containsFuncB {g : FuncId} {caps : List PV} {p : Nat × Nat → Bool} {l : List (Nat × Nat)} (hz : sz l.length) (hg : ∀ k ∈ l, Ret Tryz.prog g (bothP k :: caps) (boolP (p k))) :
    Ret Tryz.prog 87 [bothsP l, .func g caps] (boolP (l.any p)) := by
  refine fn_of (T := []) (N := 9) (RO := []) (CH := []) (KS := [0, 1, 4]) (NS := []) (fun args w => Tryz.call87 args w) Tryz.func87 rfl rfl (by simp) mixed (by kernel_rfl) trivial ?_
  simp only [go_sem]
  refine vret_pure (indexFuncB hz hg) (by simp only [go_sem]) (LeL.refl _) (by decide) ?_
  simp only [go_sem]
  exact ex_le_refl (by rw [idxBy_pos])

theorem ocR6 : ∀ f < 256, oc f = R6.oc8 f := by decide +kernel
theorem oc6u_spec (f : Nat) (hpre : f < 256) : Ret Tryz.prog 86 [u64P f] (natP (R6.oc8 f)) := by
  have h := oc_spec f (by omega)
  rwa [ocR6 f hpre] at h
noncomputable def tab_oc6u : Tab := tabOf (fun p : (Nat) => match p with | f => [u64P f]) (fun p : (Nat) => match p with | f => f < 256) (fun p : (Nat) => match p with | f => natP (R6.oc8 f))
theorem tab_oc6u_eq (f : Nat) : tab_oc6u [u64P f] = some (f < 256, .p (natP (R6.oc8 f))) := tabOf_eq (enc := fun p : (Nat) => match p with | f => [u64P f]) (pre := fun p : (Nat) => match p with | f => f < 256) (out := fun p : (Nat) => match p with | f => natP (R6.oc8 f)) (by rintro f f' h; simp at h; first | (simp [h]; done) | omega | (simp [h]; omega)) (f)
theorem tab_oc6u_ok : TabOK Tryz.prog 86 tab_oc6u := tabOf_ok (by rintro f h; exact oc6u_spec f h)
noncomputable abbrev ent_oc6u : FuncId × List Nat × Tab := (86, [], tab_oc6u)
attribute [go_sem] tab_oc6u_eq
end Go.V
