/-
  What a row's arguments of chapter 02 read as; the library's table. Conditions: none.
-/
import Derived.Test.YthihkaohgencbaaDoorVRow
import Derived.Test.YthihkaohgencbaaDoorD2o
import Derived.Test.YthihkaohgencbaaDoorRndSh
import Derived.Test.YthihkaohgencbaaDoorRows
import Derived.Test.YthihkaohgencbaaDoorTie
set_option linter.unusedVariables false
set_option linter.unusedSimpArgs false
set_option linter.deprecated false
namespace Go.V
open Go.Proofs
set_option maxRecDepth 100000
section
variable {H : Type} {enc : TypeId × Value → H} {P : Program} {W : World}
theorem Rd.of {t : TypeId} {n : Nat} {α β : Type} {f : α → PV} {g : β → PV} {Q : α → Prop} {Q' : β → Prop} (h : Rd enc P W t n f Q) (k : ∀ a, Q a → ∃ b, Q' b ∧ g b = f a) : Rd enc P W t n g Q' := by
  intro base held fuel cs x hx
  obtain ⟨a, v, h1, h2, h3, h4, h5⟩ := h base held fuel cs x hx
  obtain ⟨b, hb, e⟩ := k a h1
  exact ⟨b, v, hb, h2, h3, h4, e ▸ h5⟩
end
section
variable {H : Type} {enc : TypeId × Value → H} {W : World}
instance : Inhabited R2.EI := ⟨⟨0, 0⟩⟩
variable {base b0 : Nat} {held : Bool} {v : Value} {d : DataW H} {ps : List MemPlace} {r : Reach}
theorem argU8 (hv : Value.okWide Tryd.prog W r b0 5 v) : ∃ x : Nat, x < 256 ∧ Rel W (Sw W) (u8P x) v := by
  obtain ⟨n, rfl, hn⟩ := okWide_int' Tryd.underlying5 hv
  obtain ⟨m, rfl, hm⟩ := has_u8 hn
  exact ⟨m, hm, .val _⟩
theorem argTown (hv : Value.okWide Tryd.prog W r b0 60 v) : ∃ A : List Nat, U8s 27 A ∧ Rel W (Sw W) (.agg (lof u8P A)) v := by
  obtain ⟨l, hl, hk, hr⟩ := arg_cells (ks := List.replicate 27 .u8) (ts := List.replicate 27 5) (by kernel_rfl) (by kernel_rfl) (by kernel_rfl) (by kernel_rfl) hv
  obtain ⟨A, hA, hA2, e⟩ := zip_u8 (by simpa using hl) hk
  refine ⟨A, ⟨hA, hA2⟩, ?_⟩
  have := hr (Sw W)
  rw [e] at this
  exact this
end
theorem readU8 : Tryd.prog.readableRec 5 = true ∧ 5 < Tryd.prog.types.size := ⟨by kernel_rfl, of_decide_eq_true (by kernel_rfl)⟩
theorem readTown : Tryd.prog.readableRec 60 = true ∧ 60 < Tryd.prog.types.size := ⟨by kernel_rfl, of_decide_eq_true (by kernel_rfl)⟩
theorem laidOut : laidOutB Tryd.prog = true := by kernel_rfl
theorem ownGo : ownKnob Tryd.prog.godebug = none := by kernel_rfl

abbrev laidL : List (String × DataW Unit) := [("math/bits.deBruijn32tab", Go.Proofs.YthihkaohgencbaaDoor.Rows.laid_math_bits_deBruijn32tab), ("math/bits.deBruijn64tab", Go.Proofs.YthihkaohgencbaaDoor.Rows.laid_math_bits_deBruijn64tab)]
/-- the door's own heap meets the condition -/
theorem door_met (os : Os) (args : Array Value) : laidMetH Tryd.prog laidL ((World.doorLaid Tryd.prog 400 os).forCall (fun _ _ => 0) ⟨#[], args, []⟩).memory :=
  laidMetH_of_parts3 (fuel := 8) (laidMet_of_run' 8 (by kernel_rfl) (by kernel_rfl)) (by kernel_rfl) (by kernel_rfl)
theorem tab_laid : Go.Proofs.YthihkaohgencbaaDoor.Rows.laid_math_bits_deBruijn64tab = laidTab := by rfl
theorem glob_laid {W : World} (h : laidMetH Tryd.prog laidL W) : SOK Tryd.prog W (Sw W) :=
  ⟨fun _ h => h, glob_of_laid (g := Tryd.tz_ren.g 1) (t := 140) (e := 5) h (by kernel_rfl) (by rw [← tab_laid]; exact List.mem_cons_of_mem _ List.mem_cons_self) (by kernel_rfl) (by kernel_rfl) (by kernel_rfl) (by kernel_rfl) (by kernel_rfl) (by kernel_rfl)⟩
end Go.V
