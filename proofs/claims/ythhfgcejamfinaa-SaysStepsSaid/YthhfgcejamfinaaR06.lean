/-
  What a row's arguments read as: books, sets, numbers. Conditions: none.
-/
import Derived.Test.YthhfgcejamfinaaVRead
import Derived.Test.YthhfgcejamfinaaC06r
set_option linter.unusedVariables false
set_option linter.unusedSimpArgs false
set_option linter.deprecated false
namespace Go.V
open Go.Proofs
set_option maxRecDepth 100000
section
variable {H : Type} {enc : TypeId × Value → H} {W : World}
theorem cof_int : Try.prog.cellsOf 3 = 1 := by kernel_rfl
theorem cof_ints : Try.prog.cellsOf 25 = 1 := by kernel_rfl
theorem cof_sent : Try.prog.cellsOf 54 = 2 := by kernel_rfl
theorem cof_sents : Try.prog.cellsOf 22 = 1 := by kernel_rfl
theorem cof_book : Try.prog.cellsOf 24 = 2 := by kernel_rfl
theorem rdInt : Rd1 enc Try.prog W 3 intP (fun n => (Lit.int .i64 n).wf = true) := rd_int Try.underlying3
theorem rdInts : Rd1 enc Try.prog W 25 ints (fun l => l.length ≤ maxLen ∧ ∀ a ∈ l, (Lit.int .i64 a).wf = true) := rd_list Try.underlying25 cof_int (by decide) rdInt.rd
theorem rdSent : Rd enc Try.prog W 54 2 sentP (fun _ => True) := Rd.mono (rd_struct2 Try.underlying54 cof_sent rfl rfl cof_ints cof_ints rdInts rdInts) fun _ _ => trivial
theorem rdSents : Rd1 enc Try.prog W 22 sents (fun l => l.length ≤ maxLen ∧ ∀ a ∈ l, True) := rd_list Try.underlying22 cof_sent (by decide) rdSent
theorem rdBook : Rd enc Try.prog W 24 2 (fun x : Int × List (List Int × List Int) => bookP x.1 x.2) (fun _ => True) := Rd.mono (rd_struct2 Try.underlying24 cof_book rfl rfl cof_int cof_sents rdInt rdSents) fun _ _ => trivial

variable {base b0 : Nat} {held : Bool} {v : Value} {d : DataW H} {ps : List MemPlace} {r : Reach}
theorem argInt (hd : DataW.Trod enc Try.prog W base (fun _ => true) held 3 v d ps) (hv : Value.okWide Try.prog W r b0 3 v) : ∃ n, Rel W (Sw W) (intP n) v := by
  obtain ⟨n, rfl⟩ := WideShapes.okWide_int Try.underlying3 hv
  obtain ⟨a, _, h⟩ := rdInt.arg hd rfl
  exact ⟨a, h⟩
theorem argInts (hd : DataW.Trod enc Try.prog W base (fun _ => true) held 25 v d ps) (hv : Value.okWide Try.prog W r b0 25 v) : ∃ l, Rel W (Sw W) (ints l) v := by
  obtain ⟨o, m, c, rfl⟩ := WideShapes.okWide_slice Try.underlying25 hv
  obtain ⟨a, _, h⟩ := rdInts.arg hd rfl
  exact ⟨a, h⟩
theorem argBook (hd : DataW.Trod enc Try.prog W base (fun _ => true) held 24 v d ps) (hv : Value.okWide Try.prog W r b0 24 v) : ∃ n l, Rel W (Sw W) (bookP n l) v := by
  obtain ⟨cs, rfl, _⟩ := WideShapes.okWide_struct Try.underlying24 hv
  obtain ⟨a, _, h⟩ := rdBook.arg hd (fun a v _ h => rel_agg h)
  exact ⟨a.1, a.2, h⟩
end
theorem readInts : Try.prog.readableRec 25 = true ∧ 25 < Try.prog.types.size := ⟨by kernel_rfl, of_decide_eq_true (by kernel_rfl)⟩
theorem readInt : Try.prog.readableRec 3 = true ∧ 3 < Try.prog.types.size := ⟨by kernel_rfl, of_decide_eq_true (by kernel_rfl)⟩
theorem readBook : Try.prog.readableRec 24 = true ∧ 24 < Try.prog.types.size := ⟨by kernel_rfl, of_decide_eq_true (by kernel_rfl)⟩
theorem laid : laidOutB Try.prog = true := by kernel_rfl
end Go.V
