/-
  Contracts of the reference of chapter 07: lists of loads, what they weigh, whole ones. Conditions: none.
  What is drawn for the statements of chapter 07: small numbers. Conditions: none.
-/
import Derived.Test.YtnblnnfikpenpaaDoorD7b
import Derived.Test.YtnblnnfikpenpaaDoorP7k
import Derived.Test.YtnblnnfikpenpaaDoorA7
set_option linter.unusedVariables false
set_option linter.unusedSimpArgs false
set_option linter.deprecated false
namespace Go.V
open Go.Proofs
set_option maxRecDepth 100000
set_option maxHeartbeats 4000000

theorem wtI_ofN (L : List Int) (l : List Nat) : wtI L (ofN l) = R7.wt L l := by simp [wtI, R7.wt, ofN, List.map_map, Function.comp_def]

/-! ### picks -/
structure PickOK (n many : Nat) (b : List Nat) (k : Nat) : Prop where
  n12 : n ≤ 12
  m12 : many ≤ 12
  len : b.length ≤ many
  lt : ∀ x ∈ b, x < n
  dep : many - b.length < k
noncomputable def tab_picks : Tab := tabOf (fun p : Nat × Nat => match p with | (n, many) => [natP n, natP many, ints []]) (fun p => match p with | (n, many) => n ≤ 12 ∧ many ≤ 12) (fun p => match p with | (n, many) => lists ((R7.combs n 0 many).map ofN))
@[go_sem] theorem tab_picks_eq (n many : Nat) : tab_picks [natP n, natP many, ints []] = some (n ≤ 12 ∧ many ≤ 12, .p (lists ((R7.combs n 0 many).map ofN))) :=
  tabOf_eq (enc := fun p : Nat × Nat => match p with | (n, many) => [natP n, natP many, ints []]) (pre := fun p => match p with | (n, many) => n ≤ 12 ∧ many ≤ 12) (out := fun p => match p with | (n, many) => lists ((R7.combs n 0 many).map ofN)) (by
    rintro ⟨n, many⟩ ⟨n', many'⟩ h
    simp at h
    rw [show n = n' by omega, show many = many' by omega]) (n, many)
end Go.V

namespace Go.V
open Go.Proofs
abbrev u8P (n : Nat) : PV := .val (.int .u8 n)
abbrev u16P (n : Nat) : PV := .val (.int .u16 n)
/-- so many small numbers -/
structure U8s (n : Nat) (A : List Nat) : Prop where
  len : A.length = n
  lt : ∀ x ∈ A, x < 256
/-- a stone, and weights -/
abbrev heapP (h : Nat × List Nat) : PV := .agg (u8P h.1 :: lof u16P h.2)
structure HeapOK (h : Nat × List Nat) : Prop where
  stone : h.1 < 256
  len : h.2.length = 12
  lt : ∀ x ∈ h.2, x < 65536
end Go.V
