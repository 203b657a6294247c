/-
  What a row's arguments of the tops read as; the library's table. Conditions: none.
-/
import Derived.Test.YtaphkenfcnocbaaGreatDoorVRow
import Derived.Test.YtaphkenfcnocbaaGreatDoorD2a
import Derived.Test.YtaphkenfcnocbaaGreatDoorTopGSh
import Derived.Test.YtaphkenfcnocbaaGreatDoorRows
import Derived.Test.YtaphkenfcnocbaaGreatDoorTie
set_option linter.unusedVariables false
set_option linter.unusedSimpArgs false
set_option linter.deprecated false
namespace Go.V
open Go.Proofs
set_option maxRecDepth 100000
section
variable {W : World} {b0 : Nat} {v : Value} {r : Reach}
theorem argU8 (hv : Value.okWide Tryz.prog W r b0 5 v) : ∃ x : Nat, x < 256 ∧ Rel W (Sw W) (u8P x) v := by
  obtain ⟨n, rfl, hn⟩ := okWide_int' Tryz.underlying5 hv
  obtain ⟨m, rfl, hm⟩ := has_u8 hn
  exact ⟨m, hm, .val _⟩
end
theorem readU8 : Tryz.prog.readableRec 5 = true ∧ 5 < Tryz.prog.types.size := ⟨by kernel_rfl, of_decide_eq_true (by kernel_rfl)⟩
theorem laidOut : laidOutB Tryz.prog = true := by kernel_rfl
theorem ownGo : ownKnob Tryz.prog.godebug = none := by kernel_rfl

abbrev laidL : List (String × DataW Unit) := [("math/bits.deBruijn32tab", Go.Proofs.YtaphkenfcnocbaaGreatDoor.Rows.laid_math_bits_deBruijn32tab), ("math/bits.deBruijn64tab", Go.Proofs.YtaphkenfcnocbaaGreatDoor.Rows.laid_math_bits_deBruijn64tab)]
/-- the door's own heap meets the condition -/
theorem door_met (os : Os) (args : Array Value) : laidMetH Tryz.prog laidL ((World.doorLaid Tryz.prog 400 os).forCall (fun _ _ => 0) ⟨#[], args, []⟩).memory :=
  laidMetH_of_parts3 (fuel := 8) (laidMet_of_run' 8 (by kernel_rfl) (by kernel_rfl)) (by kernel_rfl) (by kernel_rfl)
theorem tab_laid : Go.Proofs.YtaphkenfcnocbaaGreatDoor.Rows.laid_math_bits_deBruijn64tab = laidTab := by rfl
theorem glob_laid {W : World} (h : laidMetH Tryz.prog laidL W) : SOK Tryz.prog W (Sw W) :=
  ⟨fun _ h => h, glob_of_laid (g := Tryz.tz_ren.g 1) (t := 197) (e := 5) h (by kernel_rfl) (by rw [← tab_laid]; exact List.mem_cons_of_mem _ List.mem_cons_self) (by kernel_rfl) (by kernel_rfl) (by kernel_rfl) (by kernel_rfl) (by kernel_rfl) (by kernel_rfl)⟩
end Go.V
