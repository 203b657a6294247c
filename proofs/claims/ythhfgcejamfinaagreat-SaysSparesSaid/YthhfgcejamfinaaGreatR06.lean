/-
  What a row's arguments read as: books, sets, numbers. Conditions: none.
-/
import Derived.Test.YthhfgcejamfinaaGreatVRow
import Derived.Test.YthhfgcejamfinaaGreatC06r
set_option linter.unusedVariables false
set_option linter.unusedSimpArgs false
set_option linter.deprecated false
namespace Go.V
open Go.Proofs
set_option maxRecDepth 100000
section
variable {H : Type} {enc : TypeId × Value → H} {W : World}
theorem cof_int : Tryz.prog.cellsOf 3 = 1 := by kernel_rfl
theorem cof_ints : Tryz.prog.cellsOf 25 = 1 := by kernel_rfl
theorem cof_sent : Tryz.prog.cellsOf 42 = 2 := by kernel_rfl
theorem cof_sents : Tryz.prog.cellsOf 22 = 1 := by kernel_rfl
theorem cof_book : Tryz.prog.cellsOf 24 = 2 := by kernel_rfl
theorem rdInt : Rd1 enc Tryz.prog W 3 intP (fun n => (Lit.int .i64 n).wf = true) := rd_int Tryz.underlying3
theorem rdInts : Rd1 enc Tryz.prog W 25 ints (fun l => l.length ≤ maxLen ∧ ∀ a ∈ l, (Lit.int .i64 a).wf = true) := rd_list Tryz.underlying25 cof_int (by decide) rdInt.rd
theorem rdSent : Rd enc Tryz.prog W 42 2 sentP (fun _ => True) := Rd.mono (rd_struct2 Tryz.underlying42 cof_sent rfl rfl cof_ints cof_ints rdInts rdInts) fun _ _ => trivial
theorem rdSents : Rd1 enc Tryz.prog W 22 sents (fun l => l.length ≤ maxLen ∧ ∀ a ∈ l, True) := rd_list Tryz.underlying22 cof_sent (by decide) rdSent
theorem rdBook : Rd enc Tryz.prog W 24 2 (fun x : Int × List (List Int × List Int) => bookP x.1 x.2) (fun _ => True) := Rd.mono (rd_struct2 Tryz.underlying24 cof_book rfl rfl cof_int cof_sents rdInt rdSents) fun _ _ => trivial

variable {base b0 : Nat} {held : Bool} {v : Value} {d : DataW H} {ps : List MemPlace} {r : Reach}
theorem argInt (hd : DataW.Trod enc Tryz.prog W base (fun _ => true) held 3 v d ps) (hv : Value.okWide Tryz.prog W r b0 3 v) : ∃ n, Rel W (Sw W) (intP n) v := by
  obtain ⟨n, rfl⟩ := WideShapes.okWide_int Tryz.underlying3 hv
  obtain ⟨a, _, h⟩ := rdInt.arg hd rfl
  exact ⟨a, h⟩
theorem argInts (hd : DataW.Trod enc Tryz.prog W base (fun _ => true) held 25 v d ps) (hv : Value.okWide Tryz.prog W r b0 25 v) : ∃ l, Rel W (Sw W) (ints l) v := by
  obtain ⟨o, m, c, rfl⟩ := WideShapes.okWide_slice Tryz.underlying25 hv
  obtain ⟨a, _, h⟩ := rdInts.arg hd rfl
  exact ⟨a, h⟩
theorem argBook (hd : DataW.Trod enc Tryz.prog W base (fun _ => true) held 24 v d ps) (hv : Value.okWide Tryz.prog W r b0 24 v) : ∃ n l, Rel W (Sw W) (bookP n l) v := by
  obtain ⟨cs, rfl, _⟩ := WideShapes.okWide_struct Tryz.underlying24 hv
  obtain ⟨a, _, h⟩ := rdBook.arg hd (fun a v _ h => rel_agg h)
  exact ⟨a.1, a.2, h⟩
end
theorem readInts : Tryz.prog.readableRec 25 = true ∧ 25 < Tryz.prog.types.size := ⟨by kernel_rfl, of_decide_eq_true (by kernel_rfl)⟩
theorem readInt : Tryz.prog.readableRec 3 = true ∧ 3 < Tryz.prog.types.size := ⟨by kernel_rfl, of_decide_eq_true (by kernel_rfl)⟩
theorem readBook : Tryz.prog.readableRec 24 = true ∧ 24 < Tryz.prog.types.size := ⟨by kernel_rfl, of_decide_eq_true (by kernel_rfl)⟩
theorem laid : laidOutB Tryz.prog = true := by kernel_rfl
end Go.V
