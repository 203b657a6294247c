/-
  What is drawn for the statements of chapter 02: small numbers. Conditions: none.
  What a row's arguments of chapter 02 read as; the library's table. Conditions: none.
-/
import Derived.Test.YtpbhipbdgdpllaaDoorA2
import Derived.Test.YtpbhipbdgdpllaaDoorVRow
import Derived.Test.YtpbhipbdgdpllaaDoorRndSh
import Derived.Test.YtpbhipbdgdpllaaDoorRows
import Derived.Test.YtpbhipbdgdpllaaDoorTie
set_option linter.unusedVariables false
set_option linter.unusedSimpArgs false
set_option linter.deprecated false
namespace Go.V
open Go.Proofs
/-- so many small numbers -/
structure U8s (n : Nat) (A : List Nat) : Prop where
  len : A.length = n
  lt : ∀ x ∈ A, x < 256
end Go.V

namespace Go.V
open Go.Proofs
set_option maxRecDepth 100000
section
variable {H : Type} {enc : TypeId × Value → H} {P : Program} {W : World}
theorem Rd.of {t : TypeId} {n : Nat} {α β : Type} {f : α → PV} {g : β → PV} {Q : α → Prop} {Q' : β → Prop} (h : Rd enc P W t n f Q) (k : ∀ a, Q a → ∃ b, Q' b ∧ g b = f a) : Rd enc P W t n g Q' := by
  intro base held fuel cs x hx
  obtain ⟨a, v, h1, h2, h3, h4, h5⟩ := h base held fuel cs x hx
  obtain ⟨b, hb, e⟩ := k a h1
  exact ⟨b, v, hb, h2, h3, h4, e ▸ h5⟩
end
section
variable {H : Type} {enc : TypeId × Value → H} {W : World}
instance : Inhabited R2.EI := ⟨⟨0, 0⟩⟩
variable {base b0 : Nat} {held : Bool} {v : Value} {d : DataW H} {ps : List MemPlace} {r : Reach}
end
theorem ownGo : ownKnob Tryd.prog.godebug = none := by kernel_rfl

abbrev laidL : List (String × DataW Unit) := [("math/bits.deBruijn32tab", Go.Proofs.YtpbhipbdgdpllaaDoor.Rows.laid_math_bits_deBruijn32tab), ("math/bits.deBruijn64tab", Go.Proofs.YtpbhipbdgdpllaaDoor.Rows.laid_math_bits_deBruijn64tab)]
/-- the door's own heap meets the condition -/
theorem door_met (os : Os) (args : Array Value) : laidMetH Tryd.prog laidL ((World.doorLaid Tryd.prog 400 os).forCall (fun _ _ => 0) ⟨#[], args, []⟩).memory :=
  laidMetH_of_parts3 (fuel := 8) (laidMet_of_run' 8 (by kernel_rfl) (by kernel_rfl)) (by kernel_rfl) (by kernel_rfl)
theorem tab_laid : Go.Proofs.YtpbhipbdgdpllaaDoor.Rows.laid_math_bits_deBruijn64tab = laidTab := by rfl
theorem glob_laid {W : World} (h : laidMetH Tryd.prog laidL W) : SOK Tryd.prog W (Sw W) :=
  ⟨fun _ h => h, glob_of_laid (g := Tryd.tz_ren.g 1) (t := 140) (e := 5) h (by kernel_rfl) (by rw [← tab_laid]; exact List.mem_cons_of_mem _ List.mem_cons_self) (by kernel_rfl) (by kernel_rfl) (by kernel_rfl) (by kernel_rfl) (by kernel_rfl) (by kernel_rfl)⟩
end Go.V
