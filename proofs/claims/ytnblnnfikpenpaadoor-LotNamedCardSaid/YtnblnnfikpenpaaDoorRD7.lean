/-
  What a row's arguments of chapter 07 read as; the library's table. Conditions: none.
-/
import Derived.Test.YtnblnnfikpenpaaDoorVRow
import Derived.Test.YtnblnnfikpenpaaDoorA7
import Derived.Test.YtnblnnfikpenpaaDoorC7a
import Derived.Test.YtnblnnfikpenpaaDoorLotSh
import Derived.Test.YtnblnnfikpenpaaDoorRows
import Derived.Test.YtnblnnfikpenpaaDoorTie
set_option linter.unusedVariables false
set_option linter.unusedSimpArgs false
set_option linter.deprecated false
namespace Go.V
open Go.Proofs
set_option maxRecDepth 100000
section
variable {H : Type} {enc : TypeId × Value → H} {W : World}
variable {base b0 : Nat} {held : Bool} {v : Value} {d : DataW H} {ps : List MemPlace} {r : Reach}
theorem argU8 (hv : Value.okWide Tryd.prog W r b0 5 v) : ∃ x : Nat, x < 256 ∧ Rel W (Sw W) (u8P x) v := by
  obtain ⟨n, rfl, hn⟩ := okWide_int' Tryd.underlying5 hv
  obtain ⟨m, rfl, hm⟩ := has_u8 hn
  exact ⟨m, hm, .val _⟩
theorem argArr12 (hv : Value.okWide Tryd.prog W r b0 63 v) : ∃ A : List Nat, U8s 12 A ∧ Rel W (Sw W) (.agg (lof u8P A)) v := by
  obtain ⟨l, hl, hk, hr⟩ := arg_cells (ks := List.replicate 12 .u8) (ts := List.replicate 12 5) (by kernel_rfl) (by kernel_rfl) (by kernel_rfl) (by kernel_rfl) hv
  obtain ⟨A, hA, hA2, e⟩ := zip_u8 (by simpa using hl) hk
  refine ⟨A, ⟨hA, hA2⟩, ?_⟩
  have := hr (Sw W)
  rw [e] at this
  exact this
theorem zip_u16 : ∀ {n : Nat} {l : List Int}, l.length = n → (∀ (i : Nat) k x, (List.replicate n IntKind.u16)[i]? = some k → l[i]? = some x → k.has x) →
    ∃ A : List Nat, A.length = n ∧ (∀ x ∈ A, x < 65536) ∧ List.zipWith (fun k x => PV.val (.int k x)) (List.replicate n IntKind.u16) l = lof u16P A
  | 0, [], _, _ => ⟨[], rfl, by simp, rfl⟩
  | n + 1, x :: l, hl, h => by
    obtain ⟨a, ha, hb⟩ := has_u16 (h 0 .u16 x (by simp) (by simp))
    obtain ⟨A, h1, h2, h3⟩ := zip_u16 (n := n) (l := l) (by simpa using hl) (fun i k y hk hy => h (i + 1) k y (by simpa [List.replicate_succ] using hk) (by simpa using hy))
    refine ⟨a :: A, by simp [h1], fun y hy => ?_, ?_⟩
    · rcases List.mem_cons.1 hy with rfl | hy
      · exact hb
      · exact h2 y hy
    · rw [List.replicate_succ, List.zipWith_cons_cons, h3, ha]; rfl
theorem argHeap (hv : Value.okWide Tryd.prog W r b0 47 v) : ∃ h : Nat × List Nat, HeapOK h ∧ Rel W (Sw W) (heapP h) v := by
  obtain ⟨l, hl, hk, hr⟩ := arg_cells (ks := .u8 :: List.replicate 12 .u16) (ts := 5 :: List.replicate 12 44) (by kernel_rfl) (by kernel_rfl) (by kernel_rfl) (by kernel_rfl) hv
  match l, hl with
  | x :: l, hl =>
    obtain ⟨s, rfl, hs⟩ := has_u8 (hk 0 .u8 x rfl rfl)
    obtain ⟨A, h1, h2, h3⟩ := zip_u16 (n := 12) (l := l) (by simpa using hl) (fun i k y hk2 hy => hk (i + 1) k y (by simpa using hk2) (by simpa using hy))
    refine ⟨(s, A), ⟨hs, h1, h2⟩, ?_⟩
    have := hr (Sw W)
    rw [List.zipWith_cons_cons, h3] at this
    exact this
end
theorem readU8 : Tryd.prog.readableRec 5 = true ∧ 5 < Tryd.prog.types.size := ⟨by kernel_rfl, of_decide_eq_true (by kernel_rfl)⟩
theorem readArr12 : Tryd.prog.readableRec 63 = true ∧ 63 < Tryd.prog.types.size := ⟨by kernel_rfl, of_decide_eq_true (by kernel_rfl)⟩
theorem readHeap : Tryd.prog.readableRec 47 = true ∧ 47 < Tryd.prog.types.size := ⟨by kernel_rfl, of_decide_eq_true (by kernel_rfl)⟩
theorem laidOut : laidOutB Tryd.prog = true := by kernel_rfl
theorem ownGo : ownKnob Tryd.prog.godebug = none := by kernel_rfl

abbrev laidL : List (String × DataW Unit) := [("math/bits.deBruijn32tab", Go.Proofs.YtnblnnfikpenpaaDoor.Rows.laid_math_bits_deBruijn32tab), ("math/bits.deBruijn64tab", Go.Proofs.YtnblnnfikpenpaaDoor.Rows.laid_math_bits_deBruijn64tab)]
/-- the door's own heap meets the condition -/
theorem door_met (os : Os) (args : Array Value) : laidMetH Tryd.prog laidL ((World.doorLaid Tryd.prog 400 os).forCall (fun _ _ => 0) ⟨#[], args, []⟩).memory :=
  laidMetH_of_parts3 (fuel := 8) (laidMet_of_run' 8 (by kernel_rfl) (by kernel_rfl)) (by kernel_rfl) (by kernel_rfl)
theorem tab_laid : Go.Proofs.YtnblnnfikpenpaaDoor.Rows.laid_math_bits_deBruijn64tab = laidTab := by rfl
theorem glob_laid {W : World} (h : laidMetH Tryd.prog laidL W) : SOK Tryd.prog W (Sw W) :=
  ⟨fun _ h => h, glob_of_laid (g := Tryd.tz_ren.g 1) (t := 118) (e := 5) h (by kernel_rfl) (by rw [← tab_laid]; exact List.mem_cons_of_mem _ List.mem_cons_self) (by kernel_rfl) (by kernel_rfl) (by kernel_rfl) (by kernel_rfl) (by kernel_rfl) (by kernel_rfl)⟩
end Go.V
