/-
  What a row's arguments of chapter 05 read as. Conditions: none.
-/
import Derived.Test.YtggiakaeaalioaaVRow
import Derived.Test.YtggiakaeaalioaaA5
set_option linter.unusedVariables false
set_option linter.unusedSimpArgs false
set_option linter.deprecated false
namespace Go.V
open Go.Proofs
set_option maxRecDepth 100000
section
variable {H : Type} {enc : TypeId × Value → H} {W : World}
theorem cof_int : Try.prog.cellsOf 3 = 1 := by kernel_rfl
theorem rdInt : Rd1 enc Try.prog W 3 intP (fun n => (Lit.int .i64 n).wf = true) := rd_int Try.underlying3
theorem rdInts : Rd1 enc Try.prog W 22 ints (fun l => l.length ≤ maxLen ∧ ∀ a ∈ l, (Lit.int .i64 a).wf = true) := rd_list Try.underlying22 cof_int (by decide) rdInt.rd

variable {base b0 : Nat} {held : Bool} {v : Value} {d : DataW H} {ps : List MemPlace} {r : Reach}
theorem argInt (hd : DataW.Trod enc Try.prog W base (fun _ => true) held 3 v d ps) (hv : Value.okWide Try.prog W r b0 3 v) : ∃ n, Rel W (Sw W) (intP n) v := by
  obtain ⟨n, rfl⟩ := WideShapes.okWide_int Try.underlying3 hv
  obtain ⟨a, _, h⟩ := rdInt.arg hd rfl
  exact ⟨a, h⟩
theorem argInts (hd : DataW.Trod enc Try.prog W base (fun _ => true) held 22 v d ps) (hv : Value.okWide Try.prog W r b0 22 v) : ∃ l, Rel W (Sw W) (ints l) v := by
  obtain ⟨o, m, c, rfl⟩ := WideShapes.okWide_slice Try.underlying22 hv
  obtain ⟨a, _, h⟩ := rdInts.arg hd rfl
  exact ⟨a, h⟩
abbrev u8P (n : Nat) : PV := .val (.int .u8 n)
abbrev u16P (n : Nat) : PV := .val (.int .u16 n)
theorem argU8 (hv : Value.okWide Try.prog W r b0 5 v) : ∃ x : Nat, x < 256 ∧ Rel W (Sw W) (u8P x) v := by
  obtain ⟨n, rfl, hn⟩ := okWide_int' Try.underlying5 hv
  obtain ⟨m, rfl, hm⟩ := has_u8 hn
  exact ⟨m, hm, .val _⟩
theorem argU16 (hv : Value.okWide Try.prog W r b0 50 v) : ∃ x : Nat, x < 65536 ∧ Rel W (Sw W) (u16P x) v := by
  obtain ⟨n, rfl, hn⟩ := okWide_int' Try.underlying50 hv
  obtain ⟨m, rfl, hm⟩ := has_u16 hn
  exact ⟨m, hm, .val _⟩
/-- so many small numbers -/
structure U8s (n : Nat) (A : List Nat) : Prop where
  len : A.length = n
  lt : ∀ x ∈ A, x < 256
theorem argDust (hv : Value.okWide Try.prog W r b0 44 v) : ∃ A : List Nat, U8s 9 A ∧ Rel W (Sw W) (.agg (lof u8P A)) v := by
  obtain ⟨l, hl, hk, hr⟩ := arg_cells (ks := List.replicate 9 .u8) (ts := List.replicate 9 5) (by kernel_rfl) (by kernel_rfl) (by kernel_rfl) (by kernel_rfl) hv
  obtain ⟨A, hA, hA2, e⟩ := zip_u8 (by simpa using hl) hk
  refine ⟨A, ⟨hA, hA2⟩, ?_⟩
  have := hr (Sw W)
  rw [e] at this
  exact this
theorem argArr8 (hv : Value.okWide Try.prog W r b0 42 v) : ∃ A : List Nat, U8s 8 A ∧ Rel W (Sw W) (.agg (lof u8P A)) v := by
  obtain ⟨l, hl, hk, hr⟩ := arg_cells (ks := List.replicate 8 .u8) (ts := List.replicate 8 5) (by kernel_rfl) (by kernel_rfl) (by kernel_rfl) (by kernel_rfl) hv
  obtain ⟨A, hA, hA2, e⟩ := zip_u8 (by simpa using hl) hk
  refine ⟨A, ⟨hA, hA2⟩, ?_⟩
  have := hr (Sw W)
  rw [e] at this
  exact this
end
theorem readInts : Try.prog.readableRec 22 = true ∧ 22 < Try.prog.types.size := ⟨by kernel_rfl, of_decide_eq_true (by kernel_rfl)⟩
theorem readInt : Try.prog.readableRec 3 = true ∧ 3 < Try.prog.types.size := ⟨by kernel_rfl, of_decide_eq_true (by kernel_rfl)⟩
theorem readU8 : Try.prog.readableRec 5 = true ∧ 5 < Try.prog.types.size := ⟨by kernel_rfl, of_decide_eq_true (by kernel_rfl)⟩
theorem readU16 : Try.prog.readableRec 50 = true ∧ 50 < Try.prog.types.size := ⟨by kernel_rfl, of_decide_eq_true (by kernel_rfl)⟩
theorem readDust : Try.prog.readableRec 44 = true ∧ 44 < Try.prog.types.size := ⟨by kernel_rfl, of_decide_eq_true (by kernel_rfl)⟩
theorem readArr8 : Try.prog.readableRec 42 = true ∧ 42 < Try.prog.types.size := ⟨by kernel_rfl, of_decide_eq_true (by kernel_rfl)⟩
theorem laidOut : laidOutB Try.prog = true := by kernel_rfl
end Go.V
